/- The plain laws (this session's own). No condition but those in the statements. -/
import Derived.Test.YtocgdpnealaoeaaDoorFSlt
import Derived.Test.YtocgdpnealaoeaaDoorEv5
import Derived.Test.YtocgdpnealaoeaaDoorEvD
import Derived.Test.YtocgdpnealaoeaaDoorEvK
import Derived.Sort.Walk0
import Derived.Lib.SplitLaws
import Derived.Lib.IndexMore
import Derived.Lib.Join
namespace Go.Proofs.YtocgdpnealaoeaaDoor.Ev
open Go Go.RowKit
/-- THE ONE PURE STATEMENT. -/
def BlobSelectsMatchSpecStated : Prop := ∀ (x0 : (.slice (.agg (.pair (.str) (.pair (.bool) (.slice (.int .u8))))) : Kd).T) (x1 : (.slice (.str) : Kd).T) (x2 : (.slice (.str) : Kd).T), (WfS 48 (fun x => (fun s => s.size ≤ 140737488351232) x.1 ∧ (fun x => (fun _ => True) x.1 ∧ (WfS 1 (fun n => (Lit.int .u8 n).wf = true)) x.2) x.2)) x0 → (WfS 16 (fun s => s.size ≤ 140737488351232)) x1 → (WfS 16 (fun s => s.size ≤ 140737488351232)) x2 → ∃ k, S3 k (x0, x1, x2, ()) = some true
end Go.Proofs.YtocgdpnealaoeaaDoor.Ev

namespace Go.Proofs.YtocgdpnealaoeaaDoor.Ev
open Go.RowKit
set_option linter.unusedVariables false

/-- from some number of rounds on; l: the least of all numbers of rounds that matter -/
def Ult {ι R : Type} (l : ι → Nat) (f : ι → Option R) (r : R) : Prop := ∃ K, ∀ i, K ≤ l i → f i = some r
variable {ι R α : Type} {l : ι → Nat}
theorem Ult.ret {r : R} : Ult l (fun _ => some r) r := ⟨0, fun _ _ => rfl⟩
theorem Ult.congr {f g : ι → Option R} {r : R} (h : Ult l f r) (e : ∀ i, g i = f i) : Ult l g r := by
  obtain ⟨K, h⟩ := h
  exact ⟨K, fun i hi => (e i).trans (h i hi)⟩
theorem Ult.bind {f : ι → Option α} {g : ι → α → Option R} {a : α} {r : R} (h : Ult l f a) (k : Ult l (fun i => g i a) r) : Ult l (fun i => bnd (f i) (g i)) r := by
  obtain ⟨K, h⟩ := h
  obtain ⟨L, k⟩ := k
  refine ⟨max K L, fun i hi => ?_⟩
  show Option.bind (f i) (g i) = some r
  rw [h i (by omega)]
  exact k i (by omega)
theorem Ult.bindc {m : Option α} {g : ι → α → Option R} {a : α} {r : R} (h : m = some a) (k : Ult l (fun i => g i a) r) : Ult l (fun i => bnd m (g i)) r := Ult.bind ⟨0, fun _ _ => h⟩ k
theorem Ult.yes {c : Bool} {f g : ι → Option R} {r : R} (hc : c = true) (h : Ult l f r) : Ult l (fun i => cnd c (f i) (g i)) r := by subst hc; exact h
theorem Ult.no {c : Bool} {f g : ι → Option R} {r : R} (hc : c = false) (h : Ult l g r) : Ult l (fun i => cnd c (f i) (g i)) r := by subst hc; exact h
theorem Ult.ite {c : Bool} {f g : ι → Option R} {r : R} (h : c = true → Ult l f r) (k : c = false → Ult l g r) : Ult l (fun i => cnd c (f i) (g i)) r := by
  cases c
  · exact Ult.no rfl (k rfl)
  · exact Ult.yes rfl (h rfl)
/-- a function's own number of rounds -/
abbrev Ultk (f : Nat → Option R) (r : R) : Prop := Ult (fun k : Nat => k) f r
theorem Ult.call {f : Nat → Option R} {r : R} {k : ι → Nat} (hk : ∀ i, l i ≤ k i) (h : Ultk f r) : Ult l (fun i => f (k i)) r := by
  obtain ⟨K, h⟩ := h
  exact ⟨K, fun i hi => h (k i) (Nat.le_trans hi (hk i))⟩
theorem Ultk.call {f : Nat → Option R} {r : R} (h : Ultk f r) : Ultk (fun k => f k) r := h
/-- the rounds of a loop, told by a number of their own -/
def lp (l : ι → Nat) (p : ι × Nat) : Nat := min (l p.1) p.2
theorem lp_le (l : ι → Nat) (k : ι → Nat) (hk : ∀ i, l i ≤ k i) : ∀ p : ι × Nat, lp l p ≤ k p.1 := fun p => Nat.le_trans (Nat.min_le_left _ _) (hk _)
variable {X : Type}
theorem Ult.loop {st : ι → (X → Option R) → X → Option R} {x : X} {r : R} {k : ι → Nat} (hk : ∀ i, l i ≤ k i) (h : Ult (lp l) (fun p => loopN p.2 (st p.1) x) r) : Ult l (fun i => loopN (k i) (st i) x) r := by
  obtain ⟨K, h⟩ := h
  refine ⟨K, fun i hi => h (i, k i) ?_⟩
  have := hk i
  show K ≤ min (l i) (k i)
  omega
theorem Ult.round {st : ι → (X → Option R) → X → Option R} {x : X} {r : R} (h : Ult (lp l) (fun p => st p.1 (loopN p.2 (st p.1)) x) r) : Ult (lp l) (fun p => loopN p.2 (st p.1) x) r := by
  obtain ⟨K, h⟩ := h
  refine ⟨K + 1, fun p hp => ?_⟩
  obtain ⟨i, n⟩ := p
  have h1 : K + 1 ≤ min (l i) n := hp
  cases n with
  | zero => omega
  | succ n =>
    have h2 := h (i, n) (show K ≤ min (l i) n by omega)
    exact h2
/-- rounds by a measure -/
theorem Ult.rounds {st : ι → (X → Option R) → X → Option R} {r : R} (I : X → Prop) (μ : X → Nat) (h : ∀ x, I x → (∀ y, I y → μ y < μ x → Ult (lp l) (fun p => loopN p.2 (st p.1) y) r) → Ult (lp l) (fun p => st p.1 (loopN p.2 (st p.1)) x) r) :
    ∀ x, I x → Ult (lp l) (fun p => loopN p.2 (st p.1) x) r := by
  intro x
  generalize hn : μ x = n
  induction n using Nat.strongRecOn generalizing x with
  | _ n ih =>
    intro hI
    refine Ult.round (h x hI fun y hy hlt => ih (μ y) (by omega) y rfl hy)

/-- a loop by an invariant and a measure -/
theorem Ult.loopI {st : ι → (X → Option R) → X → Option R} {x : X} {r : R} {k : ι → Nat} (hk : ∀ i, l i ≤ k i) (I : X → Prop) (μ : X → Nat) (h0 : I x)
    (h : ∀ x, I x → (∀ y, I y → μ y < μ x → Ult (lp l) (fun p => loopN p.2 (st p.1) y) r) → Ult (lp l) (fun p => st p.1 (loopN p.2 (st p.1)) x) r) : Ult l (fun i => loopN (k i) (st i) x) r :=
  Ult.loop hk (Ult.rounds I μ h x h0)

/-! ### total correctness: it ends, and with what is wanted -/
def Fin {ι R : Type} (l : ι → Nat) (f : ι → Option R) (Q : R → Prop) : Prop := ∃ r, Q r ∧ Ult l f r
abbrev Fink {R : Type} (f : Nat → Option R) (Q : R → Prop) : Prop := Fin (fun k : Nat => k) f Q
variable {Q : R → Prop}
theorem Fin.ret {r : R} (h : Q r) : Fin l (fun _ => some r) Q := ⟨r, h, Ult.ret⟩
theorem Fin.bind {f : ι → Option α} {g : ι → α → Option R} {Qa : α → Prop} (h : Fin l f Qa) (k : ∀ a, Qa a → Fin l (fun i => g i a) Q) : Fin l (fun i => bnd (f i) (g i)) Q := by
  obtain ⟨a, ha, h⟩ := h
  obtain ⟨r, hr, k⟩ := k a ha
  exact ⟨r, hr, Ult.bind h k⟩
theorem Fin.bindu {f : ι → Option α} {g : ι → α → Option R} {a : α} (h : Ult l f a) (k : Fin l (fun i => g i a) Q) : Fin l (fun i => bnd (f i) (g i)) Q := by
  obtain ⟨r, hr, k⟩ := k
  exact ⟨r, hr, Ult.bind h k⟩
theorem Fin.bindc {m : Option α} {g : ι → α → Option R} {a : α} (h : m = some a) (k : Fin l (fun i => g i a) Q) : Fin l (fun i => bnd m (g i)) Q := Fin.bindu ⟨0, fun _ _ => h⟩ k
theorem Fin.ite {c : Bool} {f g : ι → Option R} (h : c = true → Fin l f Q) (k : c = false → Fin l g Q) : Fin l (fun i => cnd c (f i) (g i)) Q := by
  cases c
  · exact k rfl
  · exact h rfl
theorem Fin.mono {Q' : R → Prop} {f : ι → Option R} (h : Fin l f Q) (k : ∀ r, Q r → Q' r) : Fin l f Q' := by
  obtain ⟨r, hr, h⟩ := h
  exact ⟨r, k r hr, h⟩
theorem Fin.of {f : ι → Option R} {r : R} (h : Ult l f r) (hq : Q r) : Fin l f Q := ⟨r, hq, h⟩
theorem Fin.ult {f : ι → Option R} {r : R} (h : Fin l f (fun x => x = r)) : Ult l f r := by
  obtain ⟨_, rfl, h⟩ := h
  exact h
theorem Fin.call {f : Nat → Option R} {k : ι → Nat} (hk : ∀ i, l i ≤ k i) (h : Fink f Q) : Fin l (fun i => f (k i)) Q := by
  obtain ⟨r, hr, h⟩ := h
  exact ⟨r, hr, Ult.call hk h⟩
/-- a loop by an invariant and a measure -/
theorem Fin.loopI {st : ι → (X → Option R) → X → Option R} {x : X} {k : ι → Nat} (hk : ∀ i, l i ≤ k i) (I : X → Prop) (μ : X → Nat) (h0 : I x)
    (h : ∀ x, I x → (∀ y, I y → μ y < μ x → Fin (lp l) (fun p => loopN p.2 (st p.1) y) Q) → Fin (lp l) (fun p => st p.1 (loopN p.2 (st p.1)) x) Q) : Fin l (fun i => loopN (k i) (st i) x) Q := by
  have key : ∀ (n : Nat) (x : X), μ x = n → I x → Fin (lp l) (fun p => loopN p.2 (st p.1) x) Q := by
    intro n
    induction n using Nat.strongRecOn with
    | _ n ih =>
      intro x hn hI
      obtain ⟨r, hr, hu⟩ := h x hI fun y hy hlt => ih (μ y) (by omega) y rfl hy
      exact ⟨r, hr, Ult.round hu⟩
  obtain ⟨r, hr, hu⟩ := key _ x rfl h0
  exact ⟨r, hr, Ult.loop hk hu⟩
theorem Ult.lift {f : ι → Option R} {r : R} (h : Ult l f r) : Ult (lp l) (fun q => f q.1) r := by
  obtain ⟨K, h⟩ := h
  exact ⟨K, fun q hq => h q.1 (Nat.le_trans hq (Nat.min_le_left _ _))⟩
theorem Fin.lift {f : ι → Option R} (h : Fin l f Q) : Fin (lp l) (fun q => f q.1) Q := by
  obtain ⟨r, hr, h⟩ := h
  exact ⟨r, hr, h.lift⟩
theorem Ultk.unique {f : Nat → Option R} {a b : R} (h : Ultk f a) (k : Ultk f b) : a = b := by
  obtain ⟨K, h⟩ := h
  obtain ⟨L, k⟩ := k
  have h1 := h (max K L) (Nat.le_max_left _ _)
  rw [k (max K L) (Nat.le_max_right _ _)] at h1
  exact (Option.some.inj h1).symm

/-! ### the operations -/
theorem wrap64 {n : Int} (h0 : -9223372036854775808 ≤ n) (h1 : n ≤ 9223372036854775807) : IntKind.i64.wrap n = n := by
  rw [IntKind.wrap_i64]; omega
theorem iadd64 {a b : Int} (h0 : -9223372036854775808 ≤ a + b) (h1 : a + b ≤ 9223372036854775807) : iadd .i64 a b = a + b := wrap64 h0 h1
theorem isub64 {a b : Int} (h0 : -9223372036854775808 ≤ a - b) (h1 : a - b ≤ 9223372036854775807) : isub .i64 a b = a - b := wrap64 h0 h1
theorem at?_nat {l : List α} {i : Nat} (h : i < l.length) : at? l (i : Int) = some l[i] := by
  unfold at?
  rw [if_pos (Int.natCast_nonneg _), Int.toNat_natCast, List.getElem?_eq_getElem h]
theorem bt?_nat {s : ByteArray} {i : Nat} (h : i < s.size) : bt? s (i : Int) = some (bt s (i : Int)) := by
  unfold bt?
  rw [if_pos ⟨Int.natCast_nonneg _, by omega⟩]
theorem len_def {l : List α} : len l = (l.length : Int) := rfl

end Go.Proofs.YtocgdpnealaoeaaDoor.Ev

namespace Go.Proofs.YtocgdpnealaoeaaDoor.Ev
open Go Go.RowKit
set_option linter.unusedVariables false
set_option linter.unusedSimpArgs false
variable {ι R X A α β : Type} {l : ι → Nat}

/-- a loop by an index and what is gathered; 'res': what comes of it from there on -/
theorem Ult.forA {st : ι → (X → Option R) → X → Option R} {k : ι → Nat} (hk : ∀ i, l i ≤ k i) (n : Nat) (mk : A → Nat → X) (I : A → Nat → Prop) (res : A → Nat → R) (a0 : A) (h0 : I a0 0)
    (h : ∀ a j, j ≤ n → I a j → (∀ a', j < n → I a' (j + 1) → Ult (lp l) (fun p => loopN p.2 (st p.1) (mk a' (j + 1))) (res a' (j + 1))) → Ult (lp l) (fun p => st p.1 (loopN p.2 (st p.1)) (mk a j)) (res a j)) :
    Ult l (fun i => loopN (k i) (st i) (mk a0 0)) (res a0 0) := by
  have key : ∀ (d j : Nat) (a : A), n - j = d → j ≤ n → I a j → Ult (lp l) (fun p => loopN p.2 (st p.1) (mk a j)) (res a j) := by
    intro d
    induction d with
    | zero => intro j a hd hj hI; exact Ult.round (h a j hj hI fun a' hlt _ => by omega)
    | succ d ih => intro j a hd hj hI; exact Ult.round (h a j hj hI fun a' hlt hI' => ih (j + 1) a' (by omega) (by omega) hI')
  exact Ult.loop hk (key n 0 a0 (by omega) (Nat.zero_le _) h0)
theorem Ult.forI {st : ι → (Int → Option R) → Int → Option R} {k : ι → Nat} (hk : ∀ i, l i ≤ k i) (n : Nat) (res : Nat → R)
    (h : ∀ j, j ≤ n → (j < n → Ult (lp l) (fun p => loopN p.2 (st p.1) ((j + 1 : Nat) : Int)) (res (j + 1))) → Ult (lp l) (fun p => st p.1 (loopN p.2 (st p.1)) (j : Int)) (res j)) :
    Ult l (fun i => loopN (k i) (st i) 0) (res 0) :=
  Ult.forA (A := Unit) hk n (fun _ j => (j : Int)) (fun _ _ => True) (fun _ j => res j) () trivial fun _ j hj _ hn => h j hj fun hlt => hn () hlt trivial
theorem Ult.jn {f : ι → (X → Option R) → Option R} {g : ι → X → Option R} {r : R} (h : Ult l (fun i => f i (g i)) r) : Ult l (fun i => jn (f i) (g i)) r := h
theorem Ult.eq {f : ι → Option R} {r r' : R} (h : Ult l f r) (e : r = r') : Ult l f r' := e ▸ h
theorem Ult.iteS {c : Bool} {f g : ι → Option R} {r r' : R} (h : c = true → Ult l f r) (k : c = false → Ult l g r') : Ult l (fun i => cnd c (f i) (g i)) (if c then r else r') := by
  cases c
  · exact Ult.no rfl (k rfl)
  · exact Ult.yes rfl (h rfl)
theorem Ult.ifS {c : Bool} {p : Prop} [Decidable p] (e : c = decide p) {f g : ι → Option R} {r r' : R} (h : p → Ult l f r) (k : ¬ p → Ult l g r') : Ult l (fun i => cnd c (f i) (g i)) (if p then r else r') := by
  subst e
  by_cases hp : p
  · rw [if_pos hp]; exact Ult.yes (decide_eq_true hp) (h hp)
  · rw [if_neg hp]; exact Ult.no (decide_eq_false hp) (k hp)

/-! ### operations -/
theorem seq_eq (a b : ByteArray) : seq a b = decide (a = b) := by
  unfold seq
  by_cases h : a = b
  · subst h; simp
  · rw [decide_eq_false h, beq_eq_false_iff_ne]
    intro e
    refine h ?_
    rw [ByteArray.toList_eq, ByteArray.toList_eq] at e
    obtain ⟨⟨x⟩⟩ := a
    obtain ⟨⟨y⟩⟩ := b
    simpa using e
theorem sne_eq (a b : ByteArray) : sne a b = decide (a ≠ b) := by
  have := seq_eq a b
  unfold seq at this
  unfold sne
  rw [this]
  by_cases h : a = b <;> simp [h]
theorem ieq_eq (a b : Int) : ieq a b = decide (a = b) := by
  unfold ieq
  by_cases h : a = b <;> simp [h]
theorem ine_eq (a b : Int) : ine a b = decide (a ≠ b) := by
  unfold ine
  by_cases h : a = b <;> simp [h]
theorem igt_eq (a b : Int) : igt a b = decide (b < a) := rfl
theorem ige_eq (a b : Int) : ige a b = decide (b ≤ a) := rfl
theorem ilt_eq (a b : Int) : ilt a b = decide (a < b) := rfl
theorem ile_eq (a b : Int) : ile a b = decide (a ≤ b) := rfl
theorem bnot_eq (a : Bool) : bnot a = !a := rfl
theorem iltL (j : Nat) (l : List α) : ilt (j : Int) (len l) = decide (j < l.length) := by
  unfold ilt len
  by_cases h : j < l.length
  · rw [decide_eq_true h, decide_eq_true (by omega)]
  · rw [decide_eq_false h, decide_eq_false (by omega)]
theorem igt0 (j : Nat) : igt (j : Int) 0 = decide (0 < j) := by
  unfold igt
  by_cases h : 0 < j
  · rw [decide_eq_true h, decide_eq_true (by omega)]
  · rw [decide_eq_false h, decide_eq_false (by omega)]
theorem isucc {j n : Nat} (h : j < n) (hn : n ≤ 9223372036854775807) : iadd .i64 (j : Int) 1 = ((j + 1 : Nat) : Int) := by rw [iadd64 (by omega) (by omega)]; rfl
theorem ipred {j n : Nat} (h0 : 0 < j) (h : j ≤ n) (hn : n ≤ 9223372036854775807) : isub .i64 (j : Int) 1 = ((j - 1 : Nat) : Int) := by rw [isub64 (by omega) (by omega)]; omega
theorem app?_ok {b : Nat} {l r : List α} (h : (l.length + r.length) * (max b 1) ≤ 140737488355328) : app? b l r = some (l ++ r) := by unfold app?; rw [if_pos h]
theorem cat?_ok {a b : ByteArray} (h : a.size + b.size ≤ 9223372036854775807) : cat? a b = some (a ++ b) := by unfold cat?; rw [if_pos h]
theorem cut?_take {l : List α} {j : Nat} (h : j ≤ l.length) : cut? l 0 (j : Int) = some (l.take j) := by
  unfold cut?
  rw [if_pos ⟨Int.le_refl _, by omega, by omega⟩]
  simp
theorem kbeq_pair (a b : ByteArray × ByteArray) : kbeq (.agg (.pair .str .str)) a b = decide (a = b) := by
  show (seq a.1 b.1 && seq a.2 b.2) = _
  rw [seq_eq, seq_eq]
  by_cases h1 : a.1 = b.1 <;> by_cases h2 : a.2 = b.2 <;> simp [h1, h2, Prod.ext_iff]
theorem drop_cons {l : List α} {j : Nat} (h : j < l.length) : l.drop j = l[j] :: l.drop (j + 1) := List.drop_eq_getElem_cons h

/-! ### strings in order -/
def lt (a b : ByteArray) : Prop := a.data.toList < b.data.toList
theorem slt_eq (a b : ByteArray) : slt a b = decide (a.data.toList < b.data.toList) := by
  unfold slt
  rw [ByteArray.toList_eq, ByteArray.toList_eq]
  exact bytesLess_eq _ _
theorem bytes_ext {a b : ByteArray} (h : a.data.toList = b.data.toList) : a = b := by
  obtain ⟨⟨x⟩⟩ := a
  obtain ⟨⟨y⟩⟩ := b
  simpa using h
theorem sle_eq (a b : ByteArray) : sle a b = decide (¬ b.data.toList < a.data.toList) := by
  have h : sle a b = (Op.bytesLess a.toList b.toList || a.toList == b.toList) := rfl
  rw [h, ByteArray.toList_eq, ByteArray.toList_eq, bytesLess_eq]
  by_cases h1 : a.data.toList < b.data.toList
  · simp [h1, List.lt_asymm h1]
  · by_cases h2 : a.data.toList = b.data.toList
    · rw [h2]; simp [List.lt_irrefl]
    · have h3 : b.data.toList < a.data.toList := by
        rcases List.le_total a.data.toList b.data.toList with q | q
        · rcases List.le_iff_lt_or_eq.1 q with q | q
          · exact absurd q h1
          · exact absurd q h2
        · rcases List.le_iff_lt_or_eq.1 q with q | q
          · exact q
          · exact absurd q.symm h2
      have h4 : ¬ a.data = b.data := fun e => h2 (by rw [e])
      simp [h1, h4, h3]
end Go.Proofs.YtocgdpnealaoeaaDoor.Ev

namespace Go.Proofs.YtocgdpnealaoeaaDoor.Ev
open Go Go.RowKit
set_option linter.unusedVariables false
set_option linter.unusedSimpArgs false
def mkB (l : List UInt8) : ByteArray := ⟨l.toArray⟩
theorem mkB_data (l : List UInt8) : (mkB l).data.toList = l := by simp [mkB]
theorem mkB_of (s : ByteArray) : mkB s.data.toList = s := bytes_ext (mkB_data _)
theorem mkB_size (l : List UInt8) : (mkB l).size = l.length := rfl
theorem size_list (s : ByteArray) : s.size = s.data.toList.length := by simp
/-- cut at each c -/
def splitL (c : UInt8) : List UInt8 → List (List UInt8)
  | [] => [[]]
  | b :: r => if b = c then [] :: splitL c r else match splitL c r with
    | [] => [[b]]
    | p :: ps => (b :: p) :: ps
theorem splitL_ne (c : UInt8) : ∀ l, splitL c l ≠ []
  | [] => by simp [splitL]
  | b :: r => by
    rw [splitL]
    split
    · simp
    · split <;> simp
theorem splitL_none {c : UInt8} : ∀ {l : List UInt8}, c ∉ l → splitL c l = [l]
  | [], _ => rfl
  | b :: r, h => by
    rw [splitL, if_neg (fun e => h (by simp [e])), splitL_none (fun m => h (by simp [m]))]
theorem splitL_cons {c : UInt8} : ∀ {p : List UInt8} (r : List UInt8), c ∉ p → splitL c (p ++ c :: r) = p :: splitL c r
  | [], r, _ => by simp [splitL]
  | b :: p, r, h => by
    rw [List.cons_append, splitL, if_neg (fun e => h (by simp [e])), splitL_cons r (fun m => h (by simp [m]))]
theorem first_of {c : UInt8} : ∀ {l : List UInt8}, c ∈ l → ∃ p r, l = p ++ c :: r ∧ c ∉ p
  | b :: l, h => by
    by_cases e : b = c
    · exact ⟨[], l, by simp [e], by simp⟩
    · have : c ∈ l := by rcases List.mem_cons.1 h with q | q; exact absurd q.symm e; exact q
      obtain ⟨p, r, rfl, h2⟩ := first_of this
      refine ⟨b :: p, r, rfl, fun m => ?_⟩
      rcases List.mem_cons.1 m with q | q
      · exact e q.symm
      · exact h2 q
theorem splitL_parts {c : UInt8} : ∀ (n : Nat) {l : List UInt8}, l.length ≤ n → ∀ p ∈ splitL c l, c ∉ p ∧ p.length ≤ l.length
  | n, l, hn, p, hp => by
    by_cases h : c ∈ l
    · obtain ⟨a, r, rfl, ha⟩ := first_of h
      rw [splitL_cons r ha] at hp
      rcases List.mem_cons.1 hp with rfl | hp
      · exact ⟨ha, by simp⟩
      · cases n with
        | zero => simp at hn
        | succ n =>
          obtain ⟨h1, h2⟩ := splitL_parts n (l := r) (by simp only [List.length_append, List.length_cons] at hn; omega) p hp
          exact ⟨h1, by simp only [List.length_append, List.length_cons]; omega⟩
    · rw [splitL_none h] at hp
      obtain rfl : p = l := by simpa using hp
      exact ⟨h, Nat.le_refl _⟩
theorem splitL_len {c : UInt8} : ∀ (l : List UInt8), (splitL c l).length ≤ l.length + 1
  | [] => by simp [splitL]
  | b :: r => by
    have ih := splitL_len (c := c) r
    rw [splitL]
    split
    · simp only [List.length_cons]; omega
    · split
      · simp
      · rename_i p ps e
        rw [e] at ih
        simp only [List.length_cons] at ih ⊢
        omega
theorem index_none {c : UInt8} : ∀ {l : List UInt8}, c ∉ l → Lib.index l [c] = -1
  | [], _ => rfl
  | b :: r, h => by
    have hb : b ≠ c := fun e => h (by simp [e])
    have := index_none (fun m => h (by simp [m]) : c ∉ r)
    rw [Lib.index, this]
    have hp : ([c] : List UInt8).isPrefixOf (b :: r) = false := by simp [List.isPrefixOf, Ne.symm hb]
    rw [hp]; simp
theorem index_first {c : UInt8} : ∀ {p : List UInt8} (r : List UInt8), c ∉ p → Lib.index (p ++ c :: r) [c] = (p.length : Int)
  | [], r, _ => by
    rw [List.nil_append, Lib.index]
    have hp : ([c] : List UInt8).isPrefixOf (c :: r) = true := by simp [List.isPrefixOf]
    rw [hp]; simp
  | b :: p, r, h => by
    have hb : b ≠ c := fun e => h (by simp [e])
    have ih := index_first (p := p) r (fun m => h (List.mem_cons_of_mem _ m))
    have ih : Lib.index (p ++ c :: r) [c] = (p.length : Int) := ih
    rw [List.cons_append, Lib.index, ih]
    have hp : ([c] : List UInt8).isPrefixOf (b :: (p ++ c :: r)) = false := by simp [List.isPrefixOf, Ne.symm hb]
    rw [hp]
    have : ¬ ((p.length : Int) == -1) = true := by simp <;> omega
    rw [if_neg (by simp), if_neg this]
    simp
theorem count_none {c : UInt8} {l : List UInt8} (h : c ∉ l) : Lib.count l [c] = 0 := by
  rw [Lib.count_one]; exact List.count_eq_zero.2 h
theorem count_first {c : UInt8} {p : List UInt8} (r : List UInt8) (h : c ∉ p) : Lib.count (p ++ c :: r) [c] = Lib.count r [c] + 1 := by
  rw [Lib.count_one, Lib.count_one, List.count_append, List.count_cons_self, List.count_eq_zero.2 h]; omega
theorem splitK_one {c : UInt8} : ∀ (n : Nat) {l : List UInt8}, l.length ≤ n → Lib.splitK [c] 0 (Lib.count l [c]) l = splitL c l
  | n, l, hn => by
    by_cases h : c ∈ l
    · obtain ⟨a, r, rfl, ha⟩ := first_of h
      rw [splitL_cons r ha, count_first r ha, Lib.splitK, index_first r ha]
      have : ¬ ((a.length : Int) == -1) = true := by simp <;> omega
      rw [if_neg this]
      cases n with
      | zero => simp at hn
      | succ n =>
        have ih := splitK_one (c := c) n (l := r) (by simp only [List.length_append, List.length_cons] at hn; omega)
        simp only [Int.toNat_natCast, Nat.add_zero, List.length_cons, List.length_nil, Nat.zero_add]
        rw [List.take_left' rfl, show (a ++ c :: r).drop (a.length + 1) = r by simp [← List.drop_drop], ih]
    · rw [splitL_none h, count_none h]; rfl
/-- strings.Split at one byte -/
theorem split_one (c : UInt8) (s : ByteArray) : Lib.splitB ⟨#[c]⟩ 0 (Lib.countB s ⟨#[c]⟩) s = (splitL c s.data.toList).map mkB := by
  have h := Lib.splitB_data ⟨#[c]⟩ 0 (Lib.countB s ⟨#[c]⟩) s
  have h2 : Lib.splitK [c] 0 (Lib.countB s ⟨#[c]⟩) s.data.toList = splitL c s.data.toList := splitK_one _ (Nat.le_refl _)
  rw [show (⟨#[c]⟩ : ByteArray).data.toList = [c] from rfl, h2] at h
  rw [← h, List.map_map]
  conv => lhs; rw [← List.map_id (Lib.splitB _ _ _ _)]
  exact List.map_congr_left fun x _ => (mkB_of x).symm
theorem cut_none {c : UInt8} {l : List UInt8} (h : c ∉ l) : Lib.cut l [c] = (l, [], false) := by
  unfold Lib.cut
  rw [index_none h, if_neg (by decide)]
theorem cut_first {c : UInt8} {p : List UInt8} (r : List UInt8) (h : c ∉ p) : Lib.cut (p ++ c :: r) [c] = (p, r, true) := by
  unfold Lib.cut
  rw [index_first r h, if_pos (Int.natCast_nonneg _)]
  simp only [Int.toNat_natCast, List.length_cons, List.length_nil, Nat.zero_add]
  rw [List.take_left' rfl, show (p ++ c :: r).drop (p.length + 1) = r by simp [← List.drop_drop]]
theorem joinTail_cons (sep : List UInt8) (y : List UInt8) (r : List (List UInt8)) : Lib.joinTail sep (y :: r) = sep ++ y ++ Lib.joinTail sep r := by simp [Lib.joinTail]
/-- what was joined is split again -/
theorem splitL_join {c : UInt8} : ∀ (r : List (List UInt8)) (x : List UInt8), c ∉ x → (∀ y ∈ r, c ∉ y) → splitL c (Lib.join (x :: r) [c]) = x :: r
  | [], x, hx, _ => by rw [Lib.join_one, splitL_none hx]
  | y :: r, x, hx, hr => by
    have ih := splitL_join r y (hr y (by simp)) fun z hz => hr z (by simp [hz])
    rw [Lib.join_cons] at ih ⊢
    rw [joinTail_cons, List.append_assoc, List.singleton_append, splitL_cons _ hx, ih]
end Go.Proofs.YtocgdpnealaoeaaDoor.Ev

namespace Go.Proofs.YtocgdpnealaoeaaDoor.Ev
open Go Go.RowKit
set_option linter.unusedVariables false
set_option linter.unusedSimpArgs false
variable {ι R α β X : Type} {l : ι → Nat}
abbrev File := ByteArray × (Bool × List Int)
theorem bt_get {s : ByteArray} {j : Nat} (h : j < s.size) : bt s (j : Int) = ((s.data.toList[j]'(by simpa using h)).toNat : Int) := by
  unfold bt
  rw [dif_pos (by simpa using h)]
  simp [ByteArray.getElem_eq_getElem_data]
theorem bt?_get {s : ByteArray} {j : Nat} (h : j < s.size) : bt? s (j : Int) = some (bt s (j : Int)) := by unfold bt?; rw [if_pos ⟨Int.natCast_nonneg _, by omega⟩]
theorem iltS (j : Nat) (s : ByteArray) : ilt (j : Int) (ssz s) = decide (j < s.size) := by
  unfold ilt ssz
  by_cases h : j < s.size
  · rw [decide_eq_true h, decide_eq_true (by omega)]
  · rw [decide_eq_false h, decide_eq_false (by omega)]
theorem ssz_small {s : ByteArray} {n : Int} (h : igt (ssz s) n = false) : (s.size : Int) ≤ n := by
  have : ¬ ssz s > n := of_decide_eq_false h
  unfold ssz at this
  omega

/-! ### words -/
/-- a byte of a part of a path -/
def pb (c : Int) : Bool := decide (97 ≤ c ∧ c ≤ 122) || (decide (65 ≤ c ∧ c ≤ 90) || (decide (48 ≤ c ∧ c ≤ 57) || (decide (c = 46) || (decide (c = 95) || (decide (c = 45) || decide (c = 43))))))
def allP (l : List UInt8) : Bool := l.all fun b => pb (b.toNat : Int)
def dot1 : ByteArray := ⟨#[46]⟩
def dot2 : ByteArray := ⟨#[46, 46]⟩
def isPartD (s : ByteArray) : Bool := allP s.data.toList && decide (s ≠ ⟨#[]⟩ ∧ s ≠ dot1 ∧ s ≠ dot2)
def parts (s : ByteArray) : List ByteArray := (splitL 47 s.data.toList).map mkB
def isPathD (s : ByteArray) : Bool := decide (1 ≤ s.size ∧ s.size ≤ 200) && (parts s).all isPartD
theorem isPathD_size {s : ByteArray} (h : isPathD s = true) : 1 ≤ s.size ∧ s.size ≤ 200 := by
  simp only [isPathD, Bool.and_eq_true, decide_eq_true_eq] at h
  exact h.1
theorem parts_len (s : ByteArray) : (parts s).length ≤ s.size + 1 := by
  have := splitL_len (c := 47) s.data.toList
  rw [← size_list] at this
  simpa [parts] using this
theorem parts_size {s p : ByteArray} (h : p ∈ parts s) : p.size ≤ s.size := by
  obtain ⟨x, hx, rfl⟩ := List.mem_map.1 h
  have := (splitL_parts (c := 47) _ (Nat.le_refl _) x hx).2
  rw [← size_list] at this
  rw [mkB_size]; exact this
theorem parts_noslash {s p : ByteArray} (h : p ∈ parts s) : (47 : UInt8) ∉ p.data.toList := by
  obtain ⟨x, hx, rfl⟩ := List.mem_map.1 h
  rw [mkB_data]
  exact (splitL_parts (c := 47) _ (Nat.le_refl _) x hx).1
theorem idx_pb (b : UInt8) : ige (Lib.indexByte [46, 95, 45, 43] (((b.toNat : Int)).toNat.toUInt8)) 0 = (decide ((b.toNat : Int) = 46) || (decide ((b.toNat : Int) = 95) || (decide ((b.toNat : Int) = 45) || decide ((b.toNat : Int) = 43)))) := by
  have key : ∀ n : _root_.Fin 256, ige (Lib.indexByte [46, 95, 45, 43] (((UInt8.ofNat n.1).toNat : Int)).toNat.toUInt8) 0 = (decide (((UInt8.ofNat n.1).toNat : Int) = 46) || (decide (((UInt8.ofNat n.1).toNat : Int) = 95) || (decide (((UInt8.ofNat n.1).toNat : Int) = 45) || decide (((UInt8.ofNat n.1).toNat : Int) = 43)))) := by decide +kernel
  have := key ⟨b.toNat, b.toNat_lt⟩
  simpa using this

/-! ### maps -/
theorem ba_eq (a b : ByteArray) : (a == b) = true ↔ a = b := by
  obtain ⟨x⟩ := a
  obtain ⟨y⟩ := b
  constructor
  · intro h
    have e : x = y := by simpa using (show (x == y) = true from h)
    rw [e]
  · intro h
    cases h
    show (x == x) = true
    simp
theorem keq_eq (a b : ByteArray) : keq a b = decide (a = b) := by
  unfold keq
  rw [Bool.eq_iff_iff, ba_eq, decide_eq_true_iff]
def mputR (m : List (ByteArray × β)) (k : ByteArray) (v : β) : List (ByteArray × β) := match m with
  | [] => [(k, v)]
  | p :: m => if k = p.1 then (p.1, v) :: m else p :: mputR m k v
theorem mput_R : ∀ (m : List (ByteArray × β)) (k : ByteArray) (v : β), mput keq m k v = mputR m k v
  | [], k, v => rfl
  | p :: m, k, v => by
    have ih := mput_R m k v
    unfold mput at ih ⊢
    rw [List.findIdx?_cons, mputR]
    by_cases h : k = p.1
    · rw [if_pos (by rw [keq_eq]; exact decide_eq_true h), if_pos h]; rfl
    · rw [if_neg (by rw [keq_eq, decide_eq_false h]; simp), if_neg h, ← ih]
      cases m.findIdx? fun p => keq k p.1 <;> rfl
theorem mget_nil (s : ByteArray) : mget? keq ([] : List (ByteArray × β)) s = none := rfl
theorem mget_cons (p : ByteArray × β) (m : List (ByteArray × β)) (s : ByteArray) : mget? keq (p :: m) s = if s = p.1 then some p.2 else mget? keq m s := by
  unfold mget?
  rw [List.find?_cons]
  by_cases h : s = p.1
  · rw [if_pos h, show keq s p.1 = true by rw [keq_eq]; exact decide_eq_true h]; rfl
  · rw [if_neg h, show keq s p.1 = false by rw [keq_eq]; exact decide_eq_false h]
theorem mget_mput : ∀ (m : List (ByteArray × β)) (k : ByteArray) (v : β) (s : ByteArray), mget? keq (mput keq m k v) s = if s = k then some v else mget? keq m s := by
  intro m k v s
  rw [mput_R]
  induction m with
  | nil => rw [mputR, mget_cons]
  | cons p m ih =>
    rw [mputR]
    by_cases h : k = p.1
    · rw [if_pos h, mget_cons, mget_cons, h]
      by_cases e : s = p.1
      · rw [if_pos e, if_pos e]
      · rw [if_neg e, if_neg e, if_neg e]
    · rw [if_neg h, mget_cons, mget_cons, ih]
      by_cases e : s = p.1
      · rw [if_pos e, if_pos e, if_neg (fun q => h (q.symm.trans e))]
      · rw [if_neg e, if_neg e]
theorem mput_len (m : List (ByteArray × β)) (k : ByteArray) (v : β) : (mput keq m k v).length ≤ m.length + 1 := by
  rw [mput_R]
  induction m with
  | nil => simp [mputR]
  | cons p m ih =>
    rw [mputR]
    split
    · simp
    · simp only [List.length_cons]; omega

/-! ### files in order -/
def Asc (l : List File) : Prop := l.Pairwise fun p q => lt p.1 q.1
instance (a b : ByteArray) : Decidable (lt a b) := inferInstanceAs (Decidable (a.data.toList < b.data.toList))
theorem lt_irrefl (a : ByteArray) : ¬ lt a a := List.lt_irrefl _
theorem lt_trans {a b c : ByteArray} (h : lt a b) (k : lt b c) : lt a c := List.lt_trans h k
theorem lt_asymm {a b : ByteArray} (h : lt a b) : ¬ lt b a := List.lt_asymm h
theorem lt_tri {a b : ByteArray} (h : ¬ lt a b) (k : ¬ lt b a) : a = b := by
  unfold lt at h k
  rcases List.le_total a.data.toList b.data.toList with q | q
  · rcases List.le_iff_lt_or_eq.1 q with q | q
    · exact absurd q h
    · exact bytes_ext q
  · rcases List.le_iff_lt_or_eq.1 q with q | q
    · exact absurd q k
    · exact bytes_ext q.symm
theorem lt_of_le_lt {a b c : ByteArray} (h : ¬ lt b a) (k : lt b c) : lt a c := by
  rcases Classical.em (lt a b) with q | q
  · exact lt_trans q k
  · rw [lt_tri q h]; exact k
theorem Asc.get {L : List File} (h : Asc L) {i j : Nat} (hij : i < j) (hj : j < L.length) : lt (L[i]'(by omega)).1 L[j].1 := List.pairwise_iff_getElem.1 h i j (by omega) hj hij
/-- a file has the path -/
def inF (l : List File) (p : ByteArray) : Bool := l.any fun x => decide (x.1 = p)
theorem inF_iff {l : List File} {p : ByteArray} : inF l p = true ↔ ∃ x ∈ l, x.1 = p := by unfold inF; simp
/-- a file has a path within which this one lies -/
def clash (inn : ByteArray → Bool) (s : ByteArray) (j : Nat) : Bool := ((List.range s.size).drop j).any fun i => decide (bt s (i : Int) = 47) && inn (s.extract 0 i)
def inside (l : List File) (s : ByteArray) : Bool := clash (inF l) s 0
theorem clash_end {inn : ByteArray → Bool} {s : ByteArray} {j : Nat} (h : s.size ≤ j) : clash inn s j = false := by
  unfold clash; rw [List.drop_eq_nil_of_le (by simpa using h)]; rfl
theorem clash_step {inn : ByteArray → Bool} {s : ByteArray} {j : Nat} (h : j < s.size) : clash inn s j = ((decide (bt s (j : Int) = 47) && inn (s.extract 0 j)) || clash inn s (j + 1)) := by
  unfold clash
  rw [List.drop_eq_getElem_cons (by simpa using h), List.any_cons, List.getElem_range]
theorem clash_congr {f g : ByteArray → Bool} (h : ∀ s, f s = g s) (s : ByteArray) (j : Nat) : clash f s j = clash g s j := by rw [show f = g from funext h]
theorem sub?_take {s : ByteArray} {j : Nat} (h : j ≤ s.size) : sub? s 0 (j : Int) = some (s.extract 0 j) := by
  unfold sub?
  rw [if_pos ⟨by omega, by omega, by omega⟩, Int.toNat_natCast]; rfl

/-! ### CheckFiles -/
def firstNZ (l : List Int) : Int := (l.find? fun x => decide (x ≠ 0)).getD 0
theorem firstNZ_nil : firstNZ [] = 0 := rfl
theorem firstNZ_cons (x : Int) (r : List Int) : firstNZ (x :: r) = if x ≠ 0 then x else firstNZ r := by
  unfold firstNZ
  rw [List.find?_cons]
  by_cases h : x = 0
  · subst h; rfl
  · rw [if_pos h, decide_eq_true h]; rfl
theorem firstNZ_zero : ∀ {l : List Int}, firstNZ l = 0 ↔ ∀ x ∈ l, x = 0
  | [] => by simp [firstNZ_nil]
  | x :: r => by
    rw [firstNZ_cons]
    by_cases h : x = 0
    · rw [if_neg (by simp [h]), firstNZ_zero (l := r)]; simp [h]
    · rw [if_pos h]; simp [h]
def fileErr (l : List File) (j : Nat) : Int :=
  if isPathD (l.getD j default).1 = false then 3 else if 100000 < (l.getD j default).2.2.length then 2 else if 0 < j ∧ ¬ lt (l.getD (j - 1) default).1 (l.getD j default).1 then 8 else 0
end Go.Proofs.YtocgdpnealaoeaaDoor.Ev

namespace Go.Proofs.YtocgdpnealaoeaaDoor.Ev
open Go Go.RowKit
set_option linter.unusedVariables false
set_option linter.unusedSimpArgs false
variable {ι R α β X : Type} {l : ι → Nat}
theorem rng {c a b : Int} {F : ι → Option Bool} {r : Bool} (h : Ult l F r) : Ult l (fun i => cnd (ige c a) (cnd (ile c b) (some true) (F i)) (F i)) (decide (a ≤ c ∧ c ≤ b) || r) := by
  by_cases h1 : a ≤ c
  · refine Ult.yes (decide_eq_true h1) ?_
    by_cases h2 : c ≤ b
    · exact Ult.yes (decide_eq_true h2) (Ult.ret.eq (by simp [h1, h2]))
    · exact Ult.no (decide_eq_false h2) (h.eq (by simp [h1, h2]))
  · exact Ult.no (decide_eq_false h1) (h.eq (by simp [h1]))
theorem isc {c a : Int} {F : ι → Option Bool} {r : Bool} (h : Ult l F r) : Ult l (fun i => cnd (ieq c a) (some true) (F i)) (decide (c = a) || r) := by
  by_cases h1 : c = a
  · exact Ult.yes (by rw [ieq_eq]; exact decide_eq_true h1) (Ult.ret.eq (by simp [h1]))
  · exact Ult.no (by rw [ieq_eq]; exact decide_eq_false h1) (h.eq (by simp [h1]))
theorem inPart_spec (b : UInt8) : Ultk (fun k => S37 k ((b.toNat : Int), ())) (pb (b.toNat : Int)) := by
  unfold S37 pb
  rw [← idx_pb b]
  exact rng (rng (rng (Ult.bind (a := Lib.indexByte [46, 95, 45, 43] ((b.toNat : Int)).toNat.toUInt8) ⟨0, fun _ _ => rfl⟩ Ult.ret)))
theorem partByte_spec (b : UInt8) : Ultk (fun k => S68 k ((b.toNat : Int), ())) (pb (b.toNat : Int)) := by
  unfold S68 pb
  exact rng (rng (rng (isc (isc (isc (Ult.ret.eq (ieq_eq _ _)))))))
theorem part_loop (f : Nat → Int × Unit → Option Bool) (hf : ∀ b : UInt8, Ultk (fun k => f k ((b.toNat : Int), ())) (pb (b.toNat : Int))) (s : ByteArray) (hs : s.size ≤ 9223372036854775807) :
    Ultk (fun k => loopN k (fun (a2 : (Int → (Option Bool))) (a3 : Int) => cnd (ilt a3 (ssz s)) (bnd (bt? s a3) (fun (a4 : Int) => bnd (f k (a4, ())) (fun (a5 : Bool) => cnd (bnot a5) (some false) (a2 (iadd Go.IntKind.i64 a3 1))))) (cnd (sne s (⟨#[]⟩ : ByteArray)) (cnd (sne s (⟨#[46]⟩ : ByteArray)) (some (sne s (⟨#[46, 46]⟩ : ByteArray))) (some false)) (some false))) 0) (isPartD s) := by
  refine (Ult.forI (fun _ => Nat.le_refl _) s.size (fun j => allP (s.data.toList.drop j) && decide (s ≠ ⟨#[]⟩ ∧ s ≠ dot1 ∧ s ≠ dot2)) fun j hj next => ?_).eq (by rw [List.drop_zero]; rfl)
  rw [iltS]
  by_cases hlt : j < s.size
  · have hl : j < s.data.toList.length := by simpa using hlt
    refine Ult.yes (decide_eq_true hlt) (Ult.bindc (bt?_get hlt) ?_)
    rw [bt_get hlt]
    refine Ult.bind (Ult.call (l := lp fun k : Nat => k) (f := fun k => f k (((s.data.toList[j]).toNat : Int), ())) (lp_le _ _ fun _ => Nat.le_refl _) (hf s.data.toList[j])) ?_
    rw [isucc hlt hs, drop_cons hl]
    unfold allP at next ⊢
    rw [List.all_cons]
    cases hb : pb ((s.data.toList[j]).toNat : Int) with
    | true => exact Ult.no rfl ((next hlt).eq (by simp))
    | false => exact Ult.yes rfl (Ult.ret.eq (by simp))
  · refine Ult.no (decide_eq_false hlt) ?_
    rw [List.drop_eq_nil_of_le (by simp; omega), sne_eq, sne_eq, sne_eq]
    by_cases h1 : s = ⟨#[]⟩
    · exact Ult.no (by simp [h1]) (Ult.ret.eq (by simp [h1]))
    refine Ult.yes (by simp [h1]) ?_
    by_cases h2 : s = dot1
    · exact Ult.no (decide_eq_false (fun q => q h2)) (Ult.ret.eq (by simp [h2]))
    refine Ult.yes (decide_eq_true h2) (Ult.ret.eq ?_)
    simp only [allP, List.all_nil, Bool.true_and, decide_eq_decide]
    exact ⟨fun h => ⟨h1, h2, h⟩, fun h => h.2.2⟩
theorem isPart_spec (s : ByteArray) (hs : s.size ≤ 9223372036854775807) : Ultk (fun k => S59 k (s, ())) (isPartD s) := by
  unfold S59
  exact part_loop S37 inPart_spec s hs
theorem isPartR_spec (s : ByteArray) (hs : s.size ≤ 9223372036854775807) : Ultk (fun k => S66 k (s, ())) (isPartD s) := by
  unfold S66
  exact part_loop S68 partByte_spec s hs
theorem all_loop (f : Nat → ByteArray × Unit → Option Bool) (q : ByteArray → Bool) (A : List ByteArray) (hA : A.length ≤ 9223372036854775807) (hf : ∀ s ∈ A, Ultk (fun k => f k (s, ())) (q s)) :
    Ultk (fun k => loopN k (fun (a4 : (Int → (Option Bool))) (a5 : Int) => cnd (ilt a5 (len A)) (bnd (at? A a5) (fun (a6 : ByteArray) => bnd (f k (a6, ())) (fun (a7 : Bool) => cnd (bnot a7) (some false) (a4 (iadd Go.IntKind.i64 a5 1))))) (some true)) 0) (A.all q) := by
  refine (Ult.forI (fun _ => Nat.le_refl _) A.length (fun j => (A.drop j).all q) fun j hj next => ?_).eq (by rw [List.drop_zero])
  rw [iltL]
  by_cases hlt : j < A.length
  · refine Ult.yes (decide_eq_true hlt) (Ult.bindc (at?_nat hlt) ?_)
    refine Ult.bind (Ult.call (l := lp fun k : Nat => k) (f := fun k => f k (A[j], ())) (lp_le _ _ fun _ => Nat.le_refl _) (hf A[j] (List.getElem_mem hlt))) ?_
    rw [isucc hlt hA, drop_cons hlt, List.all_cons]
    cases hb : q A[j] with
    | true => exact Ult.no rfl ((next hlt).eq (by simp))
    | false => exact Ult.yes rfl (Ult.ret.eq (by simp))
  · refine Ult.no (decide_eq_false hlt) (Ult.ret.eq ?_)
    rw [List.drop_eq_nil_of_le (by omega)]; rfl
def sl : ByteArray := ⟨#[47]⟩
theorem split_spec (s : ByteArray) (h : s.size < 4294967281) : Ultk (fun k => S35 k (s, (⟨#[47]⟩ : ByteArray), ())) (parts s) :=
  ⟨0, fun k _ => by
    unfold S35
    rw [if_pos ⟨h, show 1 ≤ (⟨#[47]⟩ : ByteArray).size by decide⟩]
    exact congrArg some (split_one 47 s)⟩
theorem isPath_spec (s : ByteArray) : Ultk (fun k => S32 k (s, ())) (isPathD s) := by
  unfold S32 isPathD
  refine Ult.jn ?_
  dsimp only
  by_cases h1 : s.size < 1
  · exact Ult.yes (by simp only [ilt_eq, ssz, decide_eq_true_eq]; omega) (Ult.ret.eq (by rw [decide_eq_false (by omega)]; rfl))
  refine Ult.no (by simp only [ilt_eq, ssz, decide_eq_false_iff_not]; omega) ?_
  by_cases h2 : 200 < s.size
  · exact Ult.yes (by simp only [igt_eq, ssz, decide_eq_true_eq]; omega) (Ult.ret.eq (by rw [decide_eq_false (by omega)]; rfl))
  refine Ult.no (by simp only [igt_eq, ssz, decide_eq_false_iff_not]; omega) (Ult.bind (split_spec s (by omega)) ?_)
  refine (all_loop S59 isPartD (parts s) (by have := parts_len s; omega) fun p hp => isPart_spec p (by have := parts_size hp; omega)).eq ?_
  rw [decide_eq_true (by omega), Bool.true_and]
theorem within_spec (a b c : Int) : Ultk (fun k => S44 k (a, b, c, ())) (decide (b ≤ a ∧ a ≤ c)) := by
  unfold S44
  dsimp only
  by_cases h1 : b ≤ a
  · exact Ult.yes (decide_eq_true h1) (Ult.ret.eq (by rw [ile_eq]; simp [h1]))
  · exact Ult.no (decide_eq_false h1) (Ult.ret.eq (by simp [h1]))
theorem isPathR_spec (s : ByteArray) : Ultk (fun k => S42 k (s, ())) (isPathD s) := by
  unfold S42 isPathD
  refine Ult.bind (within_spec _ _ _) ?_
  have e : decide ((1 : Int) ≤ ssz s ∧ ssz s ≤ 200) = decide (1 ≤ s.size ∧ s.size ≤ 200) := by
    rw [decide_eq_decide]; unfold ssz; omega
  rw [e]
  by_cases h : 1 ≤ s.size ∧ s.size ≤ 200
  · rw [decide_eq_true h]
    refine Ult.no rfl (Ult.bind (split_spec s (by omega)) ?_)
    refine (all_loop S66 isPartD (parts s) (by have := parts_len s; omega) fun p hp => isPartR_spec p (by have := parts_size hp; omega)).eq ?_
    rw [Bool.true_and]
  · rw [decide_eq_false h]
    exact Ult.yes rfl Ult.ret
theorem clashes_spec (m : List (ByteArray × Bool)) (s : ByteArray) (hs : s.size ≤ 9223372036854775807) : Ultk (fun k => S33 k (m, s, ())) (clash (fun p => orD (mget? keq m p) false) s 0) := by
  unfold S33
  refine Ult.forI (fun _ => Nat.le_refl _) s.size (fun j => clash (fun p => orD (mget? keq m p) false) s j) fun j hj next => ?_
  dsimp only
  rw [iltS]
  by_cases hlt : j < s.size
  · refine Ult.yes (decide_eq_true hlt) (Ult.bindc (bt?_get hlt) ?_)
    rw [isucc hlt hs, clash_step hlt, ieq_eq]
    by_cases h47 : bt s (j : Int) = 47
    · refine Ult.yes (decide_eq_true h47) (Ult.bindc (sub?_take (by omega)) ?_)
      cases hm : orD (mget? keq m (s.extract 0 j)) false with
      | true => exact Ult.yes rfl (Ult.ret.eq (by simp [h47]))
      | false => exact Ult.no rfl ((next hlt).eq (by simp))
    · exact Ult.no (decide_eq_false h47) ((next hlt).eq (by simp [h47]))
  · exact Ult.no (decide_eq_false hlt) (Ult.ret.eq (clash_end (by omega)).symm)
theorem half {a b : Nat} (h : a + b ≤ 9223372036854775807) : iquo? .i64 (iadd .i64 (a : Int) (b : Int)) 2 = some (((a + b) / 2 : Nat) : Int) := by
  rw [iadd64 (by omega) (by omega)]
  unfold iquo?
  rw [if_neg (by decide)]
  congr 1
  rw [show (a : Int) + b = ((a + b : Nat) : Int) by omega, Int.tdiv_eq_ediv_of_nonneg (by omega)]
  exact wrap64 (by omega) (by omega)
theorem there_spec (L : List File) (p : ByteArray) (hs : Asc L) (hl : L.length ≤ 4611686018427387903) : Ultk (fun k => S67 k (L, p, ())) (inF L p) := by
  unfold S67
  dsimp only
  refine Ult.loopI (fun _ => Nat.le_refl _) (fun x : Int × Int => ∃ a b : Nat, x = ((a : Int), (b : Int)) ∧ a ≤ b ∧ b ≤ L.length ∧ (∀ i (h : i < L.length), i < a → lt L[i].1 p) ∧ ∀ i (h : i < L.length), b ≤ i → ¬ lt L[i].1 p) (fun x => (x.2 - x.1).toNat) ⟨0, L.length, rfl, Nat.zero_le _, Nat.le_refl _, fun i h q => by omega, fun i h q => by omega⟩ ?_
  rintro _ ⟨a, b, rfl, hab, hb, h1, h2⟩ next
  dsimp only
  by_cases hlt : a < b
  · refine Ult.yes (by rw [ilt_eq]; exact decide_eq_true (by omega)) (Ult.bindc (half (by omega)) ?_)
    have hm : (a + b) / 2 < L.length := by omega
    refine Ult.bindc (at?_nat hm) ?_
    rw [slt_eq]
    by_cases hq : lt L[(a + b) / 2].1 p
    · refine Ult.yes (decide_eq_true hq) ?_
      rw [isucc (show (a + b) / 2 < L.length from hm) (by omega)]
      refine next _ ⟨(a + b) / 2 + 1, b, rfl, by omega, hb, fun i h q => ?_, h2⟩ (by omega)
      rcases Nat.lt_or_ge i ((a + b) / 2) with z | z
      · exact lt_trans (hs.get z hm) hq
      · have : i = (a + b) / 2 := by omega
        subst this; exact hq
    · refine Ult.no (decide_eq_false hq) ?_
      refine next _ ⟨a, (a + b) / 2, rfl, by omega, by omega, h1, fun i h q z => ?_⟩ (by omega)
      rcases Nat.lt_or_ge ((a + b) / 2) i with y | y
      · exact hq (lt_trans (hs.get y h) z)
      · have : i = (a + b) / 2 := by omega
        subst this; exact hq z
  · have e : a = b := by omega
    subst e
    refine Ult.no (by rw [ilt_eq]; exact decide_eq_false (by omega)) ?_
    rw [iltL]
    have uniq : ∀ i (h : i < L.length), L[i].1 = p → i = a := fun i h e => by
      rcases Nat.lt_trichotomy i a with z | z | z
      · exact absurd (h1 i h z) (by rw [e]; exact lt_irrefl _)
      · exact z
      · have ha : a < L.length := by omega
        exact absurd (hs.get z h) (by rw [e]; exact h2 a ha (Nat.le_refl _))
    by_cases ha : a < L.length
    · refine Ult.yes (decide_eq_true ha) (Ult.bindc (at?_nat ha) (Ult.ret.eq ?_))
      rw [seq_eq, Bool.eq_iff_iff, decide_eq_true_iff, inF_iff]
      constructor
      · intro e; exact ⟨_, List.getElem_mem ha, e⟩
      · rintro ⟨x, hx, e⟩
        obtain ⟨i, hi, rfl⟩ := List.getElem_of_mem hx
        have := uniq i hi e
        subst this; exact e
    · refine Ult.no (decide_eq_false ha) (Ult.ret.eq ?_)
      rw [eq_comm, Bool.eq_false_iff]
      intro h
      obtain ⟨x, hx, e⟩ := inF_iff.1 h
      obtain ⟨i, hi, rfl⟩ := List.getElem_of_mem hx
      have := uniq i hi e
      omega
theorem inside_spec (L : List File) (s : ByteArray) (hA : Asc L) (hl : L.length ≤ 4611686018427387903) (hs : s.size ≤ 9223372036854775807) : Ultk (fun k => S43 k (L, s, ())) (inside L s) := by
  unfold S43 inside
  refine Ult.forI (fun _ => Nat.le_refl _) s.size (fun j => clash (inF L) s j) fun j hj next => ?_
  dsimp only
  rw [iltS]
  by_cases hlt : j < s.size
  · refine Ult.yes (decide_eq_true hlt) (Ult.bindc (bt?_get hlt) ?_)
    rw [isucc hlt hs, clash_step hlt, ieq_eq]
    by_cases h47 : bt s (j : Int) = 47
    · refine Ult.yes (decide_eq_true h47) (Ult.bindc (sub?_take (by omega)) ?_)
      refine Ult.bind (Ult.call (l := lp fun k : Nat => k) (f := fun k => S67 k (L, s.extract 0 j, ())) (lp_le _ _ fun _ => Nat.le_refl _) (there_spec L _ hA hl)) ?_
      cases hm : inF L (s.extract 0 j) with
      | true => exact Ult.yes rfl (Ult.ret.eq (by simp [h47]))
      | false => exact Ult.no rfl ((next hlt).eq (by simp))
    · exact Ult.no (decide_eq_false h47) ((next hlt).eq (by simp [h47]))
  · exact Ult.no (decide_eq_false hlt) (Ult.ret.eq (clash_end (by omega)).symm)
end Go.Proofs.YtocgdpnealaoeaaDoor.Ev

namespace Go.Proofs.YtocgdpnealaoeaaDoor.Ev
open Go Go.RowKit
set_option linter.unusedVariables false
set_option linter.unusedSimpArgs false
variable {ι R α β X : Type} {l : ι → Nat}
theorem fileErr_at {L : List File} {j : Nat} (h : j < L.length) : fileErr L j = if isPathD L[j].1 = false then 3 else if 100000 < L[j].2.2.length then 2 else if 0 < j ∧ ¬ lt (L[j - 1]'(by omega)).1 L[j].1 then 8 else 0 := by
  unfold fileErr
  rw [List.getD_eq_getElem?_getD, List.getD_eq_getElem?_getD, List.getElem?_eq_getElem h, List.getElem?_eq_getElem (show j - 1 < L.length by omega)]
  rfl
def errs (L : List File) (j : Nat) : Int := firstNZ (((List.range L.length).drop j).map (fileErr L))
theorem errs_end {L : List File} {j : Nat} (h : L.length ≤ j) : errs L j = 0 := by
  unfold errs; rw [List.drop_eq_nil_of_le (by simpa using h)]; rfl
theorem errs_step {L : List File} {j : Nat} (h : j < L.length) : errs L j = if fileErr L j ≠ 0 then fileErr L j else errs L (j + 1) := by
  unfold errs
  rw [List.drop_eq_getElem_cons (by simpa using h), List.map_cons, firstNZ_cons, List.getElem_range]
def total (L : List File) : Nat := (L.map fun x => x.2.2.length).sum
def tailD (L : List File) : Int := if (L.any fun x => inside L x.1) = true then 12 else if 2000000 < total L then 2 else 0
def afterD (L : List File) (j : Nat) : Int := if errs L j ≠ 0 then errs L j else tailD L
/-- CheckFiles -/
def chkFiles (L : List File) : Int := if 1000 < L.length then 2 else afterD L 0
theorem afterD_stop {L : List File} {j : Nat} {e : Int} (h : j < L.length) (he : fileErr L j = e) (hne : e ≠ 0) : afterD L j = e := by
  subst he
  unfold afterD
  rw [errs_step h, if_pos hne, if_pos hne]
theorem afterD_next {L : List File} {j : Nat} (h : j < L.length) (he : fileErr L j = 0) : afterD L j = afterD L (j + 1) := by
  have e : errs L j = errs L (j + 1) := by rw [errs_step h, if_neg (by simp [he])]
  unfold afterD
  rw [e]
theorem afterD_end {L : List File} {j : Nat} (h : L.length ≤ j) : afterD L j = tailD L := by
  unfold afterD
  rw [errs_end h, if_neg (by simp)]
theorem total_take {L : List File} {j : Nat} (h : j < L.length) : total (L.take (j + 1)) = total (L.take j) + L[j].2.2.length := by
  unfold total
  rw [List.take_succ_eq_append_getElem h, List.map_append, List.sum_append]
  simp
theorem total_le {L : List File} : ∀ {j : Nat}, j ≤ L.length → (∀ i, i < j → fileErr L i = 0) → total (L.take j) ≤ j * 100000
  | 0, _, _ => by simp [total]
  | j + 1, hj, h => by
    have ih := total_le (j := j) (by omega) fun i hi => h i (by omega)
    have e := h j (by omega)
    rw [fileErr_at (by omega)] at e
    split at e
    · cases e
    · split at e
      · cases e
      · rw [total_take (by omega)]
        omega
theorem fileErr_zero {L : List File} {j : Nat} (h : j < L.length) (he : fileErr L j = 0) : isPathD L[j].1 = true ∧ L[j].2.2.length ≤ 100000 ∧ (0 < j → lt (L[j - 1]'(by omega)).1 L[j].1) := by
  rw [fileErr_at h] at he
  split at he
  · cases he
  · rename_i h1
    split at he
    · cases he
    · rename_i h2
      split at he
      · cases he
      · rename_i h3
        refine ⟨by simpa using h1, by omega, fun h0 => Decidable.not_not.1 fun q => h3 ⟨h0, q⟩⟩
theorem asc_of {L : List File} (h : ∀ j, j < L.length → fileErr L j = 0) : Asc L := by
  refine List.pairwise_iff_getElem.2 fun i j hi hj hij => ?_
  induction j with
  | zero => omega
  | succ j ih =>
    have h1 := (fileErr_zero hj (h _ hj)).2.2 (by omega)
    rcases Nat.lt_or_ge i j with z | z
    · exact lt_trans (ih (by omega) z) h1
    · have : i = j := by omega
      subst this; exact h1
theorem errs_zero {L : List File} : errs L 0 = 0 ↔ ∀ j, j < L.length → fileErr L j = 0 := by
  unfold errs
  rw [firstNZ_zero]
  simp
theorem chkFiles_ok {L : List File} (h : chkFiles L = 0) : L.length ≤ 1000 ∧ (∀ x ∈ L, isPathD x.1 = true) ∧ (∀ x ∈ L, x.2.2.length ≤ 100000) ∧ Asc L ∧ (∀ x ∈ L, inside L x.1 = false) ∧ total L ≤ 2000000 := by
  unfold chkFiles afterD tailD at h
  split at h
  · cases h
  rename_i h1
  split at h
  · rename_i h2; exact absurd h h2
  rename_i h2
  have h2 := errs_zero.1 (Decidable.not_not.1 h2)
  split at h
  · cases h
  rename_i h3
  split at h
  · cases h
  rename_i h4
  refine ⟨by omega, fun x hx => ?_, fun x hx => ?_, asc_of h2, fun x hx => ?_, by omega⟩
  · obtain ⟨i, hi, rfl⟩ := List.getElem_of_mem hx
    exact (fileErr_zero hi (h2 i hi)).1
  · obtain ⟨i, hi, rfl⟩ := List.getElem_of_mem hx
    exact (fileErr_zero hi (h2 i hi)).2.1
  · rw [List.any_eq_true] at h3
    rw [Bool.eq_false_iff]
    exact fun q => h3 ⟨x, hx, q⟩
theorem chkFiles_of {L : List File} (h1 : L.length ≤ 1000) (h2 : ∀ x ∈ L, isPathD x.1 = true) (h3 : ∀ x ∈ L, x.2.2.length ≤ 100000) (h4 : Asc L) (h5 : ∀ x ∈ L, inside L x.1 = false) (h6 : total L ≤ 2000000) : chkFiles L = 0 := by
  unfold chkFiles afterD tailD
  have e : errs L 0 = 0 := errs_zero.2 fun j hj => by
    rw [fileErr_at hj, if_neg (by rw [h2 _ (List.getElem_mem hj)]; simp), if_neg (by have := h3 _ (List.getElem_mem hj); omega), if_neg]
    rintro ⟨h0, q⟩
    exact q (h4.get (by omega) hj)
  rw [if_neg (by omega), if_neg (by simp [e]), if_neg, if_neg (by omega)]
  rw [List.any_eq_true]
  rintro ⟨x, hx, q⟩
  rw [h5 x hx] at q; cases q
theorem inF_take {L : List File} {j : Nat} (h : j < L.length) (p : ByteArray) : inF (L.take (j + 1)) p = (decide (p = L[j].1) || inF (L.take j) p) := by
  unfold inF
  rw [List.take_succ_eq_append_getElem h, List.any_append]
  simp only [List.any_cons, List.any_nil, Bool.or_false]
  rw [Bool.or_comm]
  congr 1
  exact decide_eq_decide.2 ⟨fun e => e.symm, fun e => e.symm⟩
theorem tail_loop (f : Nat → ByteArray → Option Bool) (L : List File) (hL : L.length ≤ 1000) (hf : ∀ x ∈ L, Ultk (fun k => f k x.1) (inside L x.1)) (n : Int) (hn : n = (total L : Nat)) :
    Ultk (fun k => loopN k (fun (a4 : (Int → (Option Int))) (a5 : Int) => cnd (ilt a5 (len L)) (bnd (at? L a5) (fun (a6 : File) => bnd (f k a6.1) (fun (a7 : Bool) => cnd a7 (some 12) (a4 (iadd Go.IntKind.i64 a5 1))))) (cnd (igt n 2000000) (some 2) (some 0))) 0) (tailD L) := by
  refine (Ult.forI (fun _ => Nat.le_refl _) L.length (fun j => if ((L.drop j).any fun x => inside L x.1) = true then 12 else if 2000000 < total L then 2 else 0) fun j hj next => ?_).eq (by rw [List.drop_zero]; rfl)
  rw [iltL]
  by_cases hlt : j < L.length
  · refine Ult.yes (decide_eq_true hlt) (Ult.bindc (at?_nat hlt) ?_)
    refine Ult.bind (Ult.call (l := lp fun k : Nat => k) (f := fun k => f k L[j].1) (lp_le _ _ fun _ => Nat.le_refl _) (hf L[j] (List.getElem_mem hlt))) ?_
    rw [isucc hlt (by omega), drop_cons hlt, List.any_cons]
    cases hb : inside L L[j].1 with
    | true => exact Ult.yes rfl (Ult.ret.eq (by simp))
    | false => exact Ult.no rfl ((next hlt).eq (by rw [Bool.false_or]))
  · refine Ult.no (decide_eq_false hlt) ?_
    rw [List.drop_eq_nil_of_le (by omega), List.any_nil, if_neg Bool.false_ne_true, igt_eq, hn]
    exact Ult.ifS (by rw [decide_eq_decide]; omega) (fun _ => Ult.ret) fun _ => Ult.ret
theorem checkFiles_spec (L : List File) : Ultk (fun k => S16 k (L, ())) (chkFiles L) := by
  unfold S16 chkFiles
  dsimp only
  have e0 : igt (len L) 1000 = decide (1000 < L.length) := by unfold igt len; rw [decide_eq_decide]; omega
  refine Ult.ifS e0 (fun _ => Ult.ret) fun h1 => ?_
  refine Ult.forA (A := Nat × List (ByteArray × Bool)) (fun _ => Nat.le_refl _) L.length (fun a j => ((a.1 : Int), (j : Int), a.2)) (fun a j => a.1 = total (L.take j) ∧ (∀ p, orD (mget? keq a.2 p) false = inF (L.take j) p) ∧ ∀ i, i < j → fileErr L i = 0) (fun _ j => afterD L j) (0, []) ⟨by simp [total], fun p => by simp [inF]; rfl, fun i hi => by omega⟩ fun a j hj ha next => ?_
  obtain ⟨h2, h3, h4⟩ := ha
  dsimp only
  rw [iltL]
  by_cases hlt : j < L.length
  · refine Ult.yes (decide_eq_true hlt) (Ult.bindc (at?_nat hlt) ?_)
    have hc := Ult.call (l := lp fun k : Nat => k) (k := fun q => q.1) (f := fun k => S32 k (L[j].1, ())) (lp_le _ _ fun _ => Nat.le_refl _) (isPath_spec L[j].1)
    refine Ult.bind hc ?_
    have hfe := fileErr_at hlt
    cases hp : isPathD L[j].1 with
    | false => exact Ult.yes rfl (Ult.ret.eq (afterD_stop hlt (by rw [hfe, if_pos hp]) (by decide)).symm)
    | true =>
    rw [if_neg (by rw [hp]; simp)] at hfe
    refine Ult.no rfl ?_
    by_cases hb : 100000 < L[j].2.2.length
    · exact Ult.yes (by rw [igt_eq]; exact decide_eq_true (by unfold len; omega)) (Ult.ret.eq (afterD_stop hlt (by rw [hfe, if_pos hb]) (by decide)).symm)
    rw [if_neg hb] at hfe
    refine Ult.no (by rw [igt_eq]; exact decide_eq_false (by unfold len; omega)) ?_
    have hle := total_le (j := j) (by omega) h4
    rw [isucc hlt (by omega), iadd64 (by unfold len; omega) (by unfold len; omega)]
    have hstep := fun hz : fileErr L j = 0 => (next (a.1 + L[j].2.2.length, mput keq a.2 L[j].1 true) hlt ⟨by rw [total_take hlt, h2], fun p => by
        rw [mget_mput, inF_take hlt, ← h3]
        by_cases e : p = L[j].1
        · rw [if_pos e]; simp [e, orD]
        · rw [if_neg e]; simp [e], fun i hi => by
        rcases Nat.lt_or_ge i j with z | z
        · exact h4 i z
        · have : i = j := by omega
          subst this; exact hz⟩).eq (afterD_next hlt hz).symm
    rw [show ((a.1 : Int) + len L[j].2.2) = ((a.1 + L[j].2.2.length : Nat) : Int) by unfold len; omega]
    by_cases h0 : 0 < j
    · refine Ult.yes (by rw [igt0]; exact decide_eq_true h0) ?_
      rw [ipred h0 (Nat.le_of_lt hlt) (by omega)]
      refine Ult.bindc (at?_nat (show j - 1 < L.length by omega)) ?_
      rw [sle_eq]
      by_cases ho : lt (L[j - 1]'(by omega)).1 L[j].1
      · rw [if_neg (fun q => q.2 ho)] at hfe
        exact Ult.no (decide_eq_false (fun q => q ho)) (hstep hfe)
      · rw [if_pos ⟨h0, ho⟩] at hfe
        exact Ult.yes (decide_eq_true ho) (Ult.ret.eq (afterD_stop hlt hfe (by decide)).symm)
    · rw [if_neg (fun q => h0 q.1)] at hfe
      exact Ult.no (by rw [igt0]; exact decide_eq_false h0) (hstep hfe)
  · refine Ult.no (decide_eq_false hlt) ?_
    rw [List.take_of_length_le (by omega)] at h2 h3
    rw [afterD_end (by omega)]
    have hsz : ∀ x ∈ L, x.1.size ≤ 200 := fun x hx => by
      obtain ⟨i, hi, rfl⟩ := List.getElem_of_mem hx
      exact (isPathD_size (fileErr_zero hi (h4 i (by omega))).1).2
    exact Ult.call (l := lp fun k : Nat => k) (k := fun q => q.1) (lp_le _ _ fun _ => Nat.le_refl _) (tail_loop (fun k p => S33 k (a.2, p, ())) L (by omega) (fun x hx => (clashes_spec a.2 x.1 (by have := hsz x hx; omega)).eq (clash_congr h3 _ _)) _ (by rw [h2]))
theorem checkFilesR_spec (L : List File) : Ultk (fun k => S22 k (L, ())) (chkFiles L) := by
  unfold S22 chkFiles
  dsimp only
  have e0 : igt (len L) 1000 = decide (1000 < L.length) := by unfold igt len; rw [decide_eq_decide]; omega
  refine Ult.ifS e0 (fun _ => Ult.ret) fun h1 => ?_
  refine Ult.forA (A := Nat) (fun _ => Nat.le_refl _) L.length (fun a j => ((a : Int), (j : Int))) (fun a j => a = total (L.take j) ∧ ∀ i, i < j → fileErr L i = 0) (fun _ j => afterD L j) 0 ⟨by simp [total], fun i hi => by omega⟩ fun a j hj ha next => ?_
  obtain ⟨h2, h4⟩ := ha
  dsimp only
  rw [iltL]
  by_cases hlt : j < L.length
  · refine Ult.yes (decide_eq_true hlt) (Ult.bindc (at?_nat hlt) ?_)
    have hc := Ult.call (l := lp fun k : Nat => k) (k := fun q => q.1) (f := fun k => S42 k (L[j].1, ())) (lp_le _ _ fun _ => Nat.le_refl _) (isPathR_spec L[j].1)
    refine Ult.bind hc ?_
    have hfe := fileErr_at hlt
    cases hp : isPathD L[j].1 with
    | false => exact Ult.yes rfl (Ult.ret.eq (afterD_stop hlt (by rw [hfe, if_pos hp]) (by decide)).symm)
    | true =>
    rw [if_neg (by rw [hp]; simp)] at hfe
    refine Ult.no rfl (Ult.bindc (at?_nat hlt) ?_)
    by_cases hb : 100000 < L[j].2.2.length
    · exact Ult.yes (by rw [igt_eq]; exact decide_eq_true (by unfold len; omega)) (Ult.ret.eq (afterD_stop hlt (by rw [hfe, if_pos hb]) (by decide)).symm)
    rw [if_neg hb] at hfe
    refine Ult.no (by rw [igt_eq]; exact decide_eq_false (by unfold len; omega)) ?_
    have hle := total_le (j := j) (by omega) h4
    rw [isucc hlt (by omega)]
    have hstep := fun hz : fileErr L j = 0 => (next (a + L[j].2.2.length) hlt ⟨by rw [total_take hlt, h2], fun i hi => by
        rcases Nat.lt_or_ge i j with z | z
        · exact h4 i z
        · have : i = j := by omega
          subst this; exact hz⟩).eq (afterD_next hlt hz).symm
    have hadd : iadd Go.IntKind.i64 (a : Int) (len L[j].2.2) = ((a + L[j].2.2.length : Nat) : Int) := by rw [iadd64 (by unfold len; omega) (by unfold len; omega)]; unfold len; omega
    by_cases h0 : 0 < j
    · refine Ult.yes (by rw [igt0]; exact decide_eq_true h0) (Ult.bindc (at?_nat hlt) ?_)
      rw [ipred h0 (Nat.le_of_lt hlt) (by omega)]
      refine Ult.bindc (at?_nat (show j - 1 < L.length by omega)) ?_
      rw [sle_eq]
      by_cases ho : lt (L[j - 1]'(by omega)).1 L[j].1
      · rw [if_neg (fun q => q.2 ho)] at hfe
        exact Ult.no (decide_eq_false (fun q => q ho)) (Ult.bindc (at?_nat hlt) (by rw [hadd]; exact hstep hfe))
      · rw [if_pos ⟨h0, ho⟩] at hfe
        exact Ult.yes (decide_eq_true ho) (Ult.ret.eq (afterD_stop hlt hfe (by decide)).symm)
    · rw [if_neg (fun q => h0 q.1)] at hfe
      exact Ult.no (by rw [igt0]; exact decide_eq_false h0) (Ult.bindc (at?_nat hlt) (by rw [hadd]; exact hstep hfe))
  · refine Ult.no (decide_eq_false hlt) ?_
    rw [List.take_of_length_le (by omega)] at h2
    rw [afterD_end (by omega)]
    have hz : ∀ i, i < L.length → fileErr L i = 0 := fun i hi => h4 i (by omega)
    have hsz : ∀ x ∈ L, x.1.size ≤ 200 := fun x hx => by
      obtain ⟨i, hi, rfl⟩ := List.getElem_of_mem hx
      exact (isPathD_size (fileErr_zero hi (hz i hi)).1).2
    exact Ult.call (l := lp fun k : Nat => k) (k := fun q => q.1) (lp_le _ _ fun _ => Nat.le_refl _) (tail_loop (fun k p => S43 k (L, p, ())) L (by omega) (fun x hx => inside_spec L x.1 (asc_of hz) (by omega) (by have := hsz x hx; omega)) _ (by rw [h2]))
end Go.Proofs.YtocgdpnealaoeaaDoor.Ev

namespace Go.Proofs.YtocgdpnealaoeaaDoor.Ev
open Go Go.RowKit
set_option linter.unusedVariables false
set_option linter.unusedSimpArgs false
variable {ι R α β X : Type} {l : ι → Nat}
theorem seq_self (a : ByteArray) : seq a a = true := by rw [seq_eq]; simp
theorem loopN_mono {X R : Type} {st : (X → Option R) → X → Option R} (h : ∀ f g : X → Option R, (∀ y r, f y = some r → g y = some r) → ∀ x r, st f x = some r → st g x = some r) : ∀ (n m : Nat) (x : X) (r : R), n ≤ m → loopN n st x = some r → loopN m st x = some r
  | 0, m, x, r, _, e => by cases e
  | n + 1, 0, x, r, hle, e => by omega
  | n + 1, m + 1, x, r, hle, e => h (loopN n st) (loopN m st) (fun y r' q => loopN_mono h n m y r' (by omega) q) x r e
abbrev stD : ((Int × (Int × (List Int))) → (Option ByteArray)) → (Int × (Int × (List Int))) → Option ByteArray := fun a5 a6 => cnd (ilt a6.2.1 (len (List.replicate 16 (0 : Int)))) (bnd (bt? (⟨#[48, 49, 50, 51, 52, 53, 54, 55, 56, 57, 97, 98, 99, 100, 101, 102]⟩ : ByteArray) (iand Go.IntKind.u64 a6.1 15)) (fun (a7 : Int) => bnd (inb (len a6.2.2) (isub Go.IntKind.i64 15 a6.2.1)) (fun (a8 : Unit) => bnd (ishr? Go.IntKind.u64 a6.1 4) (fun (a9 : Int) => a5 (a9, iadd Go.IntKind.i64 a6.2.1 1, setAt a6.2.2 (isub Go.IntKind.i64 15 a6.2.1) a7))))) (some (strOf a6.2.2))
theorem stD_mono (f g : (Int × (Int × (List Int))) → Option ByteArray) (h : ∀ y r, f y = some r → g y = some r) (x : Int × (Int × (List Int))) (r : ByteArray) (e : stD f x = some r) : stD g x = some r := by
  unfold stD at *
  cases hc : ilt x.2.1 (len (List.replicate 16 (0 : Int))) with
  | false => rw [hc] at e; exact e
  | true =>
    rw [hc] at e
    have e : bnd _ _ = some r := e
    show bnd _ _ = some r
    unfold bnd at *
    obtain ⟨a, h1, e⟩ := Option.bind_eq_some_iff.1 e
    obtain ⟨b, h2, e⟩ := Option.bind_eq_some_iff.1 e
    obtain ⟨c, h3, e⟩ := Option.bind_eq_some_iff.1 e
    rw [h1]
    show Option.bind _ _ = _
    rw [h2]
    show Option.bind _ _ = _
    rw [h3]
    exact h _ _ e
theorem digD : loopN 20 stD (14695981039346656037, 0, List.replicate 16 (0 : Int)) = some ⟨#[99, 98, 102, 50, 57, 99, 101, 52, 56, 52, 50, 50, 50, 51, 50, 53]⟩ := by decide +kernel
theorem awake_spec : Ultk (fun k => S11 k ()) true := by
  unfold S11
  have h26 : Ultk (fun k => S26 k (([] : List Int), ())) ⟨#[99, 98, 102, 50, 57, 99, 101, 52, 56, 52, 50, 50, 50, 51, 50, 53]⟩ := by
    unfold S26
    refine Ult.loopI (fun _ => Nat.le_refl _) (fun x => x = (14695981039346656037, 0)) (fun x => 0) rfl ?_
    rintro _ rfl next
    refine Ult.no (by decide) (Ult.bindc (a := List.replicate 16 (0 : Int)) (by decide +kernel) ?_)
    refine ⟨20, fun p hp => ?_⟩
    have : 20 ≤ min p.1 p.2 := hp
    exact loopN_mono stD_mono 20 p.1 _ _ (by omega) digD
  refine Ult.bind (Ult.call (f := fun k => S26 k (([] : List Int), ())) (fun _ => Nat.le_refl _) h26) ?_
  rw [seq_self]
  exact Ult.ret


theorem ieq_self (a : Int) : ieq a a = true := by rw [ieq_eq]; simp
theorem ine_self (a : Int) : ine a a = false := by rw [ine_eq]; simp
/-- sizes of files that fit a memory -/
structure FSz (L : List File) : Prop where
  len : L.length * 48 ≤ 140737488355328
  bytes : ∀ x ∈ L, x.2.2.length ≤ 140737488355328
  path : ∀ x ∈ L, x.1.size ≤ 140737488355328
theorem copyBytes_spec (l : List Int) (h : l.length ≤ 140737488355328) : Ultk (fun k => S15 k (l, ())) l := by
  unfold S15
  exact Ult.bindc (app?_ok (by simpa using h)) Ult.ret
theorem copyFiles_spec (L : List File) (hL : FSz L) : Ultk (fun k => S5 k (L, ())) L := by
  unfold S5
  have hl := hL.len
  refine (Ult.forA (A := List File) (fun _ => Nat.le_refl _) L.length (fun a j => (a, (j : Int))) (fun a j => a = L.take j) (fun _ _ => L) [] (by simp) fun a j hj ha next => ?_)
  dsimp only
  rw [iltL]
  by_cases hlt : j < L.length
  · refine Ult.yes (decide_eq_true hlt) (Ult.bindc (at?_nat hlt) (Ult.bindc (at?_nat hlt) (Ult.bindc (at?_nat hlt) ?_)))
    have hc := Ult.call (l := lp fun k : Nat => k) (k := fun q => q.1) (f := fun k => S15 k (L[j].2.2, ())) (lp_le _ _ fun _ => Nat.le_refl _) (copyBytes_spec _ (hL.bytes _ (List.getElem_mem hlt)))
    refine Ult.bind hc (Ult.bindc (app?_ok (by rw [ha, List.length_take]; simp; omega)) ?_)
    rw [isucc hlt (by omega)]
    exact next _ hlt (by rw [ha, List.take_succ_eq_append_getElem hlt])
  · refine Ult.no (decide_eq_false hlt) (Ult.ret.eq ?_)
    rw [ha, List.take_of_length_le (by omega)]
def sameF (x y : File) : Bool := decide (x.1 = y.1) && (x.2.1 == y.2.1 && decide (strOf x.2.2 = strOf y.2.2))
theorem sameFile_spec (x y : File) : Ultk (fun k => S25 k (x, y, ())) (sameF x y) := by
  unfold S25 sameF
  dsimp only
  rw [seq_eq]
  by_cases h1 : x.1 = y.1
  · refine Ult.yes (decide_eq_true h1) ?_
    cases h2 : x.2.1 == y.2.1 with
    | true =>
      refine Ult.yes h2 (Ult.bind (a := seq (strOf x.2.2) (strOf y.2.2)) ⟨0, fun _ _ => rfl⟩ (Ult.ret.eq ?_))
      rw [seq_eq, decide_eq_true h1]; simp
    | false => exact Ult.no h2 (Ult.ret.eq (by simp))
  · exact Ult.no (decide_eq_false h1) (Ult.ret.eq (by simp [h1]))
theorem sameF_self (x : File) : sameF x x = true := by unfold sameF; simp
def sameFs (A B : List File) : Bool := decide (A.length = B.length) && (List.range A.length).all fun i => sameF (A.getD i default) (B.getD i default)
theorem sameFiles_spec (A B : List File) (hA : A.length ≤ 9223372036854775807) : Ultk (fun k => S10 k (A, B, ())) (sameFs A B) := by
  unfold S10 sameFs
  dsimp only
  by_cases hl : A.length = B.length
  rotate_left
  · exact Ult.yes (by rw [ine_eq]; exact decide_eq_true (by unfold len; omega)) (Ult.ret.eq (by rw [decide_eq_false hl]; rfl))
  refine Ult.no (by rw [ine_eq]; exact decide_eq_false (by unfold len; omega)) ?_
  rw [decide_eq_true hl, Bool.true_and]
  refine (Ult.forI (fun _ => Nat.le_refl _) A.length (fun j => ((List.range A.length).drop j).all fun i => sameF (A.getD i default) (B.getD i default)) fun j hj next => ?_).eq (by rw [List.drop_zero])
  rw [iltL]
  by_cases hlt : j < A.length
  · have hlb : j < B.length := by omega
    refine Ult.yes (decide_eq_true hlt) (Ult.bindc (at?_nat hlt) (Ult.bindc (at?_nat hlb) ?_))
    have hc := Ult.call (l := lp fun k : Nat => k) (k := fun q => q.1) (f := fun k => S25 k (A[j], B[j], ())) (lp_le _ _ fun _ => Nat.le_refl _) (sameFile_spec _ _)
    refine Ult.bind hc ?_
    rw [isucc hlt hA, List.drop_eq_getElem_cons (by simpa using hlt), List.all_cons, List.getElem_range]
    have e : sameF (A.getD j default) (B.getD j default) = sameF A[j] B[j] := by
      rw [List.getD_eq_getElem?_getD, List.getD_eq_getElem?_getD, List.getElem?_eq_getElem hlt, List.getElem?_eq_getElem hlb]; rfl
    rw [e]
    cases hb : sameF A[j] B[j] with
    | true => exact Ult.no rfl ((next hlt).eq (by rw [Bool.true_and]))
    | false => exact Ult.yes rfl (Ult.ret.eq (by rw [Bool.false_and]))
  · refine Ult.no (decide_eq_false hlt) (Ult.ret.eq ?_)
    rw [List.drop_eq_nil_of_le (by simp; omega)]; rfl
theorem sameFs_self (A : List File) : sameFs A A = true := by
  unfold sameFs
  simp [sameF_self]
/-- what lies within -/
def liesD (p q : ByteArray) : Bool := decide ((q ++ sl).size ≤ p.size ∧ p.extract 0 (q ++ sl).size = q ++ sl)
theorem liesD_size {p q : ByteArray} (h : liesD p q = true) : q.size + 1 ≤ p.size := by
  unfold liesD at h
  have := (of_decide_eq_true h).1
  rw [ByteArray.size_append] at this
  exact this
end Go.Proofs.YtocgdpnealaoeaaDoor.Ev

namespace Go.Proofs.YtocgdpnealaoeaaDoor.Ev
open Go Go.RowKit
set_option linter.unusedVariables false
set_option linter.unusedSimpArgs false
variable {ι R α β X : Type} {l : ι → Nat}
def dbl : ByteArray := ⟨#[42, 42]⟩
def has2 (s : ByteArray) : Bool := Lib.contains s.data.toList [42, 42]
def pq (c : Int) : Bool := pb c || (decide (c = 42) || decide (c = 63))
def patPart (s : ByteArray) : Bool := decide (s = dbl) || (s.data.toList.all (fun b => pq (b.toNat : Int)) && (decide (s ≠ ⟨#[]⟩ ∧ s ≠ dot1 ∧ s ≠ dot2) && !has2 s))
def patOK (s : ByteArray) : Bool := decide (1 ≤ s.size ∧ s.size ≤ 200) && (parts s).all patPart
def chkPat (s : ByteArray) : Int := if patOK s = true then 0 else 3
theorem patOK_size {s : ByteArray} (h : patOK s = true) : 1 ≤ s.size ∧ s.size ≤ 200 := by
  unfold patOK at h
  exact of_decide_eq_true ((Bool.and_eq_true _ _).mp h).1
theorem bytes_loop {kk : ι → Nat} (hk : ∀ i, l i ≤ kk i) (f : Nat → Int × Unit → Option Bool) (hf : ∀ b : UInt8, Ultk (fun k => f k ((b.toNat : Int), ())) (pb (b.toNat : Int))) (s : ByteArray) (hs : s.size ≤ 9223372036854775807) (bad : R) (E : ι → Option R) (r : R) (hE : Ult l E r) :
    Ult l (fun i => loopN (kk i) (fun (a7 : (Int → (Option R))) (a8 : Int) => cnd (ilt a8 (ssz s)) (bnd (bt? s a8) (fun (a9 : Int) => bnd (f (kk i) (a9, ())) (fun (a10 : Bool) => cnd (bnot a10) (bnd (bt? s a8) (fun (a11 : Int) => cnd (ine a11 42) (bnd (bt? s a8) (fun (a12 : Int) => cnd (ine a12 63) (some bad) (a7 (iadd Go.IntKind.i64 a8 1)))) (a7 (iadd Go.IntKind.i64 a8 1)))) (a7 (iadd Go.IntKind.i64 a8 1))))) (E i)) 0)
      (if s.data.toList.all (fun b => pq (b.toNat : Int)) = true then r else bad) := by
  refine (Ult.forI hk s.size (fun j => if (s.data.toList.drop j).all (fun b => pq (b.toNat : Int)) = true then r else bad) fun j hj next => ?_).eq (by rw [List.drop_zero])
  rw [iltS]
  by_cases hlt : j < s.size
  · have hl : j < s.data.toList.length := by simpa using hlt
    refine Ult.yes (decide_eq_true hlt) (Ult.bindc (bt?_get hlt) ?_)
    refine Ult.bind (a := pb (bt s (j : Int))) ?_ ?_
    · rw [bt_get hlt]
      exact Ult.call (l := lp l) (f := fun k => f k (((s.data.toList[j]).toNat : Int), ())) (lp_le _ _ hk) (hf _)
    rw [isucc hlt hs, drop_cons hl, List.all_cons, ← bt_get hlt]
    cases hb : pb (bt s (j : Int)) with
    | true => exact Ult.no rfl ((next hlt).eq (by simp [pq, hb]))
    | false =>
      refine Ult.yes rfl (Ult.bindc (bt?_get hlt) ?_)
      by_cases h42 : bt s (j : Int) = 42
      · exact Ult.no (by rw [ine_eq]; simp [h42]) ((next hlt).eq (by simp [pq, h42]))
      refine Ult.yes (by rw [ine_eq]; simp [h42]) (Ult.bindc (bt?_get hlt) ?_)
      by_cases h63 : bt s (j : Int) = 63
      · exact Ult.no (by rw [ine_eq]; simp [h63]) ((next hlt).eq (by simp [pq, h63]))
      · exact Ult.yes (by rw [ine_eq]; simp [h63]) (Ult.ret.eq (by simp [pq, hb, h42, h63]))
  · refine Ult.no (decide_eq_false hlt) ?_
    rw [List.drop_eq_nil_of_le (by simp; omega), List.all_nil, if_pos rfl]
    obtain ⟨K, hK⟩ := hE
    exact ⟨K, fun p hp => hK p.1 (Nat.le_trans hp (Nat.min_le_left _ _))⟩
theorem contains_spec (s : ByteArray) (h : s.size < 4294967281) : Ultk (fun k => S36 k (s, (⟨#[42, 42]⟩ : ByteArray), ())) (has2 s) :=
  ⟨0, fun k _ => by unfold S36; exact if_pos h⟩
theorem checkPattern_spec (s : ByteArray) : Ultk (fun k => S18 k (s, ())) (chkPat s) := by
  unfold S18
  dsimp only
  by_cases h1 : s.size < 1
  · exact Ult.yes (by simp only [ilt_eq, ssz, decide_eq_true_eq]; omega) (Ult.ret.eq (by unfold chkPat patOK; rw [decide_eq_false (by omega)]; rfl))
  refine Ult.no (by simp only [ilt_eq, ssz, decide_eq_false_iff_not]; omega) ?_
  by_cases h2 : 200 < s.size
  · exact Ult.yes (by simp only [igt_eq, ssz, decide_eq_true_eq]; omega) (Ult.ret.eq (by unfold chkPat patOK; rw [decide_eq_false (by omega)]; rfl))
  refine Ult.no (by simp only [igt_eq, ssz, decide_eq_false_iff_not]; omega) (Ult.bind (split_spec s (by omega)) ?_)
  refine (Ult.forI (fun _ => Nat.le_refl _) (parts s).length (fun j => if ((parts s).drop j).all patPart = true then (0 : Int) else 3) fun j hj next => ?_).eq (by rw [List.drop_zero]; unfold chkPat patOK; rw [decide_eq_true (by omega), Bool.true_and])
  rw [iltL]
  by_cases hlt : j < (parts s).length
  · have hsz : (parts s)[j].size ≤ s.size := parts_size (List.getElem_mem hlt)
    refine Ult.yes (decide_eq_true hlt) (Ult.bindc (at?_nat hlt) ?_)
    rw [isucc hlt (by have := parts_len s; omega), drop_cons hlt, List.all_cons]
    generalize (parts s)[j] = p at hsz
    by_cases h0 : p = dbl
    · exact Ult.yes (by rw [seq_eq]; exact decide_eq_true h0) ((next hlt).eq (by simp [patPart, h0]))
    refine Ult.no (by rw [seq_eq]; exact decide_eq_false h0) ?_
    by_cases e1 : p = ⟨#[]⟩
    · exact Ult.yes (by rw [seq_eq]; exact decide_eq_true e1) (Ult.ret.eq (by rw [if_neg]; simp [patPart, h0, e1, show ¬ (⟨#[]⟩ : ByteArray) = dbl by decide]))
    refine Ult.no (by rw [seq_eq]; exact decide_eq_false e1) ?_
    by_cases e2 : p = dot1
    · exact Ult.yes (by rw [seq_eq]; exact decide_eq_true e2) (Ult.ret.eq (by rw [if_neg]; simp [patPart, h0, e2, show ¬ dot1 = dbl by decide]))
    refine Ult.no (by rw [seq_eq]; exact decide_eq_false e2) ?_
    by_cases e3 : p = dot2
    · exact Ult.yes (by rw [seq_eq]; exact decide_eq_true e3) (Ult.ret.eq (by rw [if_neg]; simp [patPart, h0, e3, show ¬ dot2 = dbl by decide]))
    refine Ult.no (by rw [seq_eq]; exact decide_eq_false e3) ?_
    refine Ult.bind (Ult.call (l := lp fun k : Nat => k) (f := fun k => S36 k (p, (⟨#[42, 42]⟩ : ByteArray), ())) (lp_le _ _ fun _ => Nat.le_refl _) (contains_spec p (by omega))) ?_
    cases hh : has2 p with
    | true => exact Ult.yes rfl (Ult.ret.eq (by rw [if_neg]; simp [patPart, h0, hh]))
    | false =>
      refine Ult.no rfl ((bytes_loop (lp_le _ _ fun _ => Nat.le_refl _) S37 inPart_spec p (by omega) 3 _ _ (next hlt)).eq ?_)
      have e : patPart p = p.data.toList.all (fun b => pq (b.toNat : Int)) := by
        unfold patPart
        rw [decide_eq_false h0, decide_eq_true ⟨e1, e2, e3⟩, hh]; simp
      rw [e]
      cases p.data.toList.all (fun b => pq (b.toNat : Int)) <;> simp
  · refine Ult.no (decide_eq_false hlt) (Ult.ret.eq ?_)
    rw [List.drop_eq_nil_of_le (by omega)]; rfl
theorem patPart_spec (p : ByteArray) (hs : p.size ≤ 200) : Ultk (fun k => S45 k (p, ())) (patPart p) := by
  unfold S45
  dsimp only
  by_cases h0 : p = dbl
  · exact Ult.yes (by rw [seq_eq]; exact decide_eq_true h0) (Ult.ret.eq (by simp [patPart, h0]))
  refine Ult.no (by rw [seq_eq]; exact decide_eq_false h0) ?_
  refine (bytes_loop (fun _ => Nat.le_refl _) S68 partByte_spec p (by omega) false _ (decide (p ≠ ⟨#[]⟩ ∧ p ≠ dot1 ∧ p ≠ dot2) && !has2 p) ?_).eq ?_
  · rw [sne_eq, sne_eq, sne_eq]
    by_cases e1 : p = ⟨#[]⟩
    · exact Ult.no (by simp [e1]) (Ult.ret.eq (by simp [e1]))
    refine Ult.yes (by simp [e1]) ?_
    by_cases e2 : p = dot1
    · exact Ult.no (decide_eq_false (fun q => q e2)) (Ult.ret.eq (by simp [e2]))
    refine Ult.yes (decide_eq_true e2) ?_
    by_cases e3 : p = dot2
    · exact Ult.no (decide_eq_false (fun q => q e3)) (Ult.ret.eq (by simp [e3]))
    refine Ult.yes (decide_eq_true e3) (Ult.bind (contains_spec p (by omega)) (Ult.ret.eq ?_))
    rw [decide_eq_true ⟨e1, e2, e3⟩]; rfl
  · unfold patPart
    rw [decide_eq_false h0]
    cases p.data.toList.all (fun b => pq (b.toNat : Int)) <;> simp
theorem checkPatternR_spec (s : ByteArray) : Ultk (fun k => S23 k (s, ())) (chkPat s) := by
  unfold S23
  refine Ult.bind (within_spec _ _ _) ?_
  have e : decide ((1 : Int) ≤ ssz s ∧ ssz s ≤ 200) = decide (1 ≤ s.size ∧ s.size ≤ 200) := by
    rw [decide_eq_decide]; unfold ssz; omega
  rw [e]
  by_cases h : 1 ≤ s.size ∧ s.size ≤ 200
  · rw [decide_eq_true h]
    refine Ult.no rfl (Ult.bind (split_spec s (by omega)) ?_)
    refine (Ult.forI (fun _ => Nat.le_refl _) (parts s).length (fun j => if ((parts s).drop j).all patPart = true then (0 : Int) else 3) fun j hj next => ?_).eq (by rw [List.drop_zero]; unfold chkPat patOK; rw [decide_eq_true h, Bool.true_and])
    rw [iltL]
    by_cases hlt : j < (parts s).length
    · have hsz : (parts s)[j].size ≤ s.size := parts_size (List.getElem_mem hlt)
      refine Ult.yes (decide_eq_true hlt) (Ult.bindc (at?_nat hlt) ?_)
      rw [isucc hlt (by have := parts_len s; omega), drop_cons hlt, List.all_cons]
      refine Ult.bind (Ult.call (l := lp fun k : Nat => k) (f := fun k => S45 k ((parts s)[j], ())) (lp_le _ _ fun _ => Nat.le_refl _) (patPart_spec (parts s)[j] (by omega))) ?_
      cases hb : patPart (parts s)[j] with
      | true => exact Ult.no rfl ((next hlt).eq (by simp))
      | false => exact Ult.yes rfl (Ult.ret.eq (by simp))
    · refine Ult.no (decide_eq_false hlt) (Ult.ret.eq ?_)
      rw [List.drop_eq_nil_of_le (by omega)]; rfl
  · rw [decide_eq_false h]
    exact Ult.yes rfl (Ult.ret.eq (by unfold chkPat patOK; rw [decide_eq_false h]; rfl))
end Go.Proofs.YtocgdpnealaoeaaDoor.Ev

namespace Go.Proofs.YtocgdpnealaoeaaDoor.Ev
open Go Go.RowKit
set_option linter.unusedVariables false
set_option linter.unusedSimpArgs false
variable {ι R α β X : Type} {l : ι → Nat}
/-! ### a row of the table -/
def stepF (mny : Bool) (o : Nat → Bool) (F : Nat → Bool) (k : Nat) : Bool := if mny then (List.range (k + 1)).any F else decide (0 < k) && (F (k - 1) && o (k - 1))
def tabF (M : α → Bool) (O : α → Nat → Bool) : List α → (Nat → Bool) → Nat → Bool
  | [], F => F
  | a :: r, F => tabF M O r (stepF (M a) (O a) F)
def fitL (M : α → Bool) (O : α → Nat → Bool) (A : List α) (n : Nat) : Bool := tabF M O A (fun k => decide (k = 0)) n
theorem any_range (F : Nat → Bool) (k : Nat) : (List.range (k + 1)).any F = ((List.range k).any F || F k) := by
  rw [List.range_succ, List.any_append]; simp
/-- what a row holds -/
def Holds (can : List Bool) (n : Nat) (F : Nat → Bool) : Prop := can.length = n + 1 ∧ ∀ u, u ≤ n → can.getD u false = F u
/-- what a row holds that is filled up to a place -/
def Filled (nx : List Bool) (n q : Nat) (F : Nat → Bool) : Prop := nx.length = n + 1 ∧ (∀ u, u < q → nx.getD u false = F u) ∧ ∀ u, q ≤ u → nx.getD u false = false
theorem inb_ok {n : Int} {i : Nat} (h : (i : Int) < n) : inb n (i : Int) = some () := by unfold inb; rw [if_pos ⟨Int.natCast_nonneg _, h⟩]
theorem set_len {l : List Bool} {i : Int} {b : Bool} : (setAt l i b).length = l.length := by unfold setAt; simp
theorem set_get {l : List Bool} {i u : Nat} {b : Bool} (hi : i < l.length) : (setAt l (i : Int) b).getD u false = if u = i then b else l.getD u false := by
  unfold setAt
  rw [Int.toNat_natCast]
  simp only [List.getD_eq_getElem?_getD, List.getElem?_set]
  by_cases e : i = u
  · subst e; simp [hi]
  · rw [if_neg e, if_neg (fun q => e q.symm)]
theorem Filled.start (n : Nat) (F : Nat → Bool) : Filled (List.replicate (n + 1) false) n 0 F := ⟨by simp, fun u h => by omega, fun u _ => by
  rw [List.getD_eq_getElem?_getD, List.getElem?_replicate]; split <;> rfl⟩
theorem Filled.put {nx : List Bool} {n q : Nat} {F : Nat → Bool} (h : Filled nx n q F) (hq : q ≤ n) {b : Bool} (hb : b = F q) : Filled (setAt nx (q : Int) b) n (q + 1) F :=
  ⟨by rw [set_len]; exact h.1, fun u hu => by
    rw [set_get (by rw [h.1]; omega)]
    split
    · rename_i e; rw [hb, e]
    · exact h.2.1 u (by omega), fun u hu => by
    rw [set_get (by rw [h.1]; omega), if_neg (by omega)]
    exact h.2.2 u (by omega)⟩
theorem Filled.skip {nx : List Bool} {n q : Nat} {F : Nat → Bool} (h : Filled nx n q F) (hb : F q = false) : Filled nx n (q + 1) F :=
  ⟨h.1, fun u hu => by
    rcases Nat.lt_or_ge u q with k | k
    · exact h.2.1 u k
    · rw [show u = q by omega, hb]; exact h.2.2 q (Nat.le_refl _), fun u hu => h.2.2 u (by omega)⟩
theorem Filled.holds {nx : List Bool} {n : Nat} {F : Nat → Bool} (h : Filled nx n (n + 1) F) : Holds nx n F := ⟨h.1, fun u hu => h.2.1 u (by omega)⟩
theorem Holds.first (n : Nat) : Holds (setAt (List.replicate (n + 1) false) 0 true) n fun k => decide (k = 0) :=
  ⟨by rw [set_len]; simp, fun u hu => by
    rw [show (0 : Int) = ((0 : Nat) : Int) from rfl, set_get (by simp), List.getD_eq_getElem?_getD, List.getElem?_replicate]
    show _ = decide (u = 0)
    by_cases e : u = 0
    · rw [if_pos e, decide_eq_true e]
    · rw [if_neg e, decide_eq_false e]; split <;> rfl⟩
theorem Holds.at {can : List Bool} {n u : Nat} {F : Nat → Bool} (h : Holds can n F) (hu : u ≤ n) : at? can (u : Int) = some (F u) := by
  have hl : u < can.length := by rw [h.1]; omega
  rw [at?_nat hl, ← h.2 u hu]
  simp [List.getD_eq_getElem?_getD, hl]
theorem mk_ok (n : Nat) (h : n ≤ 140737488355328) : mk? 1 false (n : Int) (n : Int) = some (List.replicate n false) := by
  unfold mk?
  rw [if_pos ⟨rfl, Int.natCast_nonneg _, by rw [Int.toNat_natCast]; show n * 1 ≤ _; omega⟩, Int.toNat_natCast]
/-- the program's table -/
theorem fits_loop {kk : ι → Nat} (hk : ∀ i, l i ≤ kk i) (A B : List α) (m : ι → α → Option Bool) (o : ι → α × α → Option Bool) (M : α → Bool) (O : α → Nat → Bool) (hm : ∀ c ∈ A, Ult l (fun i => m i c) (M c))
    (ho : ∀ c ∈ A, ∀ (j : Nat) (h : j < B.length), Ult l (fun i => o i (c, B[j])) (O c j)) (hA : A.length ≤ 140737488355327) (hB : B.length ≤ 140737488355327) :
    Ult l (fun i => bnd (mk? 1 false (iadd Go.IntKind.i64 (len B) 1) (iadd Go.IntKind.i64 (len B) 1)) (fun (a2 : (List Bool)) => bnd (inb (len a2) 0) (fun (a3 : Unit) => loopN (kk i) (fun (a4 : (((List Bool) × Int) → (Option Bool))) (a5 : ((List Bool) × Int)) => cnd (ilt a5.2 (len A)) (bnd (at? A a5.2) (fun (a6 : α) => bnd (mk? 1 false (len a5.1) (len a5.1)) (fun (a7 : (List Bool)) => loopN (kk i) (fun (a8 : ((Bool × (Int × (List Bool))) → (Option Bool))) (a9 : (Bool × (Int × (List Bool)))) => cnd (ilt a9.2.1 (len a5.1)) (bnd (m i a6) (fun (a10 : Bool) => cnd a10 (cnd a9.1 (bnd (inb (len a9.2.2) a9.2.1) (fun (a11 : Unit) => a8 (true, iadd Go.IntKind.i64 a9.2.1 1, setAt a9.2.2 a9.2.1 true))) (bnd (at? a5.1 a9.2.1) (fun (a11 : Bool) => bnd (inb (len a9.2.2) a9.2.1) (fun (a12 : Unit) => a8 (a11, iadd Go.IntKind.i64 a9.2.1 1, setAt a9.2.2 a9.2.1 a11))))) (cnd (igt a9.2.1 0) (bnd (at? a5.1 (isub Go.IntKind.i64 a9.2.1 1)) (fun (a11 : Bool) => cnd a11 (bnd (at? B (isub Go.IntKind.i64 a9.2.1 1)) (fun (a12 : α) => bnd (o i (a6, a12)) (fun (a13 : Bool) => bnd (inb (len a9.2.2) a9.2.1) (fun (a14 : Unit) => a8 (a9.1, iadd Go.IntKind.i64 a9.2.1 1, setAt a9.2.2 a9.2.1 a13))))) (bnd (inb (len a9.2.2) a9.2.1) (fun (a12 : Unit) => a8 (a9.1, iadd Go.IntKind.i64 a9.2.1 1, setAt a9.2.2 a9.2.1 false))))) (a8 (a9.1, iadd Go.IntKind.i64 a9.2.1 1, a9.2.2))))) (a4 (a9.2.2, iadd Go.IntKind.i64 a5.2 1))) (false, 0, a7)))) (bnd (inb (len a5.1) (len B)) (fun (a6 : Unit) => some (gt false a5.1 (len B))))) (setAt a2 0 true, 0))))
      (fitL M O A B.length) := by
  have e1 : iadd .i64 (len B) 1 = ((B.length + 1 : Nat) : Int) := by unfold len; rw [iadd64 (by omega) (by omega)]; rfl
  rw [e1]
  refine Ult.bindc (mk_ok _ (by omega)) (Ult.bindc (by unfold len; exact inb_ok (i := 0) (by simp)) ?_)
  refine (Ult.forA (A := List Bool × (Nat → Bool)) hk A.length (fun a j => (a.1, (j : Int))) (fun a j => Holds a.1 B.length a.2) (fun a j => tabF M O (A.drop j) a.2 B.length) (_, fun k => decide (k = 0)) (Holds.first B.length) fun a j hj hI next => ?_).eq (by rw [List.drop_zero]; rfl)
  obtain ⟨can, F⟩ := a
  replace hI : Holds can _ F := hI
  have hl : len can = ((B.length + 1 : Nat) : Int) := by unfold len; rw [hI.1]
  dsimp only
  rw [iltL, hl]
  by_cases hlt : j < A.length
  · refine Ult.yes (decide_eq_true hlt) (Ult.bindc (at?_nat hlt) (Ult.bindc (mk_ok _ (by omega)) ?_))
    rw [drop_cons hlt, isucc hlt (by omega)]
    have hmem := List.getElem_mem hlt
    have next' := fun nx => next (nx, stepF (M A[j]) (O A[j]) F) hlt
    clear next
    dsimp only at next'
    show Ult _ _ (tabF M O (A.drop (j + 1)) (stepF (M A[j]) (O A[j]) F) B.length)
    have hm' := hm _ hmem
    have ho' := ho _ hmem
    generalize A[j] = c at hm' ho' next'
    refine Ult.forA (A := Bool × List Bool) (lp_le _ _ hk) (B.length + 1) (fun a q => (a.1, (q : Int), a.2)) (fun a q => Filled a.2 B.length q (stepF (M c) (O c) F) ∧ (M c = true → a.1 = (List.range q).any F)) (fun _ _ => tabF M O (A.drop (j + 1)) (stepF (M c) (O c) F) B.length) (false, _) ⟨Filled.start _ _, fun _ => rfl⟩ fun a q hq hF next2 => ?_
    obtain ⟨any, nx⟩ := a
    obtain ⟨hF, hany⟩ := hF
    have hn : len nx = ((B.length + 1 : Nat) : Int) := by unfold len; rw [hF.1]
    dsimp only at next2 hF hany ⊢
    by_cases hq2 : q < B.length + 1
    · have hin : inb (len nx) (q : Int) = some () := inb_ok (by rw [hn]; omega)
      refine Ult.yes (by rw [ilt_eq]; exact decide_eq_true (by omega)) (Ult.bind hm'.lift.lift ?_)
      rw [isucc hq2 (by omega)]
      cases hM : M c with
      | true =>
        have hs : stepF true (O c) F q = ((List.range q).any F || F q) := by unfold stepF; rw [if_pos rfl, any_range]
        rw [hM] at next2 hF
        refine Ult.yes rfl ?_
        have ha : any = (List.range q).any F := hany hM
        cases hany2 : any with
        | true => exact Ult.yes rfl (Ult.bindc hin (next2 (true, _) hq2 ⟨hF.put (by omega) (by rw [hs, ← ha, hany2]; rfl), fun _ => by rw [any_range, ← ha, hany2]; rfl⟩))
        | false => exact Ult.no rfl (Ult.bindc (hI.at (by omega)) (Ult.bindc hin (next2 (F q, _) hq2 ⟨hF.put (by omega) (by rw [hs, ← ha, hany2]; rfl), fun _ => by rw [any_range, ← ha, hany2]; rfl⟩)))
      | false =>
        have hs : stepF false (O c) F q = (decide (0 < q) && (F (q - 1) && O c (q - 1))) := rfl
        rw [hM] at next2 hF
        refine Ult.no rfl ?_
        rw [igt0]
        by_cases h0 : 0 < q
        · refine Ult.yes (decide_eq_true h0) ?_
          rw [ipred h0 (Nat.le_of_lt hq2) (by omega)]
          refine Ult.bindc (hI.at (by omega)) ?_
          cases hp : F (q - 1) with
          | true => exact Ult.yes rfl (Ult.bindc (at?_nat (show q - 1 < B.length by omega)) (Ult.bind (ho' (q - 1) (by omega)).lift.lift (Ult.bindc hin (next2 (any, _) hq2 ⟨hF.put (by omega) (by rw [hs, decide_eq_true h0, hp]; rfl), fun h => by cases h⟩))))
          | false => exact Ult.no rfl (Ult.bindc hin (next2 (any, _) hq2 ⟨hF.put (by omega) (by rw [hs, decide_eq_true h0, hp]; rfl), fun h => by cases h⟩))
        · exact Ult.no (decide_eq_false h0) (next2 (any, nx) hq2 ⟨hF.skip (by rw [hs, decide_eq_false h0]; rfl), fun h => by cases h⟩)
    · refine Ult.no (by rw [ilt_eq]; exact decide_eq_false (by omega)) ?_
      rw [show q = B.length + 1 by omega] at hF
      exact (next' nx hF.holds).lift
  · refine Ult.no (decide_eq_false hlt) (Ult.bindc (by unfold len; exact inb_ok (by omega)) (Ult.ret.eq ?_))
    rw [List.drop_eq_nil_of_le (by omega)]
    show gt false can (len B) = F B.length
    rw [← hI.2 B.length (Nat.le_refl _)]
    unfold gt len
    rw [Int.toNat_natCast]
def fitB (p s : ByteArray) : Bool := fitL (fun c : Int => decide (c = 42)) (fun c j => decide (c = 63) || decide (c = bt s (j : Int))) (bytesOf p) s.size
theorem bytesOf_len (s : ByteArray) : (bytesOf s).length = s.size := by unfold bytesOf; simp
theorem bytesOf_get (s : ByteArray) (j : Nat) (h : j < (bytesOf s).length) : (bytesOf s)[j] = bt s (j : Int) := by
  rw [bt_get (by rw [bytesOf_len] at h; exact h)]
  simp [bytesOf]
theorem partFits_spec (p s : ByteArray) (hp : p.size ≤ 1000) (hs : s.size ≤ 1000) : Ultk (fun k => S40 k (p, s, ())) (fitB p s) := by
  unfold S40
  have l1 := bytesOf_len p
  have l2 := bytesOf_len s
  refine Ult.bindc (app?_ok (by rw [l1]; simp; omega)) (Ult.bindc (app?_ok (by rw [l2]; simp; omega)) ?_)
  refine Ult.bind (a := fitB p s) ?_ Ult.ret
  unfold S63 fitB
  have := fits_loop (kk := fun k : Nat => k) (fun _ => Nat.le_refl _) (bytesOf p) (bytesOf s) (fun k c => S64 k (c, ())) (fun k c => S65 k (c.1, c.2, ())) (fun c : Int => decide (c = 42)) (fun c j => decide (c = 63) || decide (c = bt s (j : Int)))
    (fun c _ => by unfold S64; exact Ult.ret.eq (ieq_eq _ _)) (fun c _ j hj => by
      unfold S65
      dsimp only
      rw [bytesOf_get]
      exact isc (Ult.ret.eq (ieq_eq _ _))) (by omega) (by omega)
  rw [l2] at this
  exact this
/-- the reference's table of a part -/
theorem refPart_spec (p s : ByteArray) (hp : p.size ≤ 1000) (hs : s.size ≤ 1000) : Ultk (fun k => S69 k (p, s, ())) (fitB p s) := by
  unfold S69 fitB
  have e1 : iadd .i64 (ssz s) 1 = ((s.size + 1 : Nat) : Int) := by unfold ssz; rw [iadd64 (by omega) (by omega)]; rfl
  have l1 := bytesOf_len p
  dsimp only
  rw [e1]
  refine Ult.bindc (mk_ok _ (by omega)) (Ult.bindc (by unfold len; exact inb_ok (i := 0) (by simp)) ?_)
  refine (Ult.forA (A := List Bool × (Nat → Bool)) (fun _ => Nat.le_refl _) p.size (fun a j => (a.1, (j : Int))) (fun a j => Holds a.1 s.size a.2) (fun a j => tabF (fun c : Int => decide (c = 42)) (fun c j => decide (c = 63) || decide (c = bt s (j : Int))) ((bytesOf p).drop j) a.2 s.size) (_, fun k => decide (k = 0)) (Holds.first s.size) fun a j hj hI next => ?_).eq (by rw [List.drop_zero]; rfl)
  obtain ⟨can, F⟩ := a
  replace hI : Holds can _ F := hI
  dsimp only
  rw [iltS]
  by_cases hlt : j < p.size
  · refine Ult.yes (decide_eq_true hlt) (Ult.bindc (mk_ok _ (by omega)) ?_)
    rw [drop_cons (by omega), isucc hlt (by omega), bytesOf_get]
    have hbt := bt?_get hlt
    generalize hc : bt p (j : Int) = c at hbt
    have next' := fun nx => next (nx, stepF (decide (c = 42)) (fun j => decide (c = 63) || decide (c = bt s (j : Int))) F) hlt
    clear next
    dsimp only at next'
    show Ult _ _ (tabF _ _ ((bytesOf p).drop (j + 1)) (stepF (decide (c = 42)) (fun j => decide (c = 63) || decide (c = bt s (j : Int))) F) s.size)
    refine Ult.forA (A := List Bool) (lp_le _ _ fun _ => Nat.le_refl _) (s.size + 1) (fun a q => ((q : Int), a)) (fun a q => Filled a s.size q (stepF (decide (c = 42)) (fun j => decide (c = 63) || decide (c = bt s (j : Int))) F)) (fun _ _ => tabF _ _ ((bytesOf p).drop (j + 1)) (stepF (decide (c = 42)) (fun j => decide (c = 63) || decide (c = bt s (j : Int))) F) s.size) _ (Filled.start _ _) fun nx q hq hF next2 => ?_
    have hn : len nx = ((s.size + 1 : Nat) : Int) := by unfold len; rw [hF.1]
    dsimp only at next2 hF ⊢
    by_cases hq2 : q < s.size + 1
    · have hin : inb (len nx) (q : Int) = some () := inb_ok (by rw [hn]; omega)
      refine Ult.yes (by rw [ile_eq]; exact decide_eq_true (by unfold ssz; omega)) (Ult.bindc hbt ?_)
      rw [isucc hq2 (by omega), igt0, ieq_eq]
      by_cases hM : c = 42
      · have hs : stepF (decide (c = 42)) (fun j => decide (c = 63) || decide (c = bt s (j : Int))) F q = ((List.range q).any F || F q) := by unfold stepF; rw [if_pos (decide_eq_true hM), any_range]
        refine Ult.yes (decide_eq_true hM) (Ult.bindc (hI.at (by omega)) ?_)
        cases hf : F q with
        | true => exact Ult.yes rfl (Ult.bindc hin (next2 _ hq2 (hF.put (by omega) (by rw [hs, hf]; simp))))
        | false =>
          refine Ult.no rfl ?_
          by_cases h0 : 0 < q
          · refine Ult.yes (decide_eq_true h0) ?_
            rw [ipred h0 (Nat.le_of_lt hq2) (by omega)]
            refine Ult.bindc (inb_ok (by rw [hn]; omega)) (Ult.bindc hin (next2 _ hq2 (hF.put (by omega) ?_)))
            unfold gt
            rw [Int.toNat_natCast, hF.2.1 (q - 1) (by omega), hs, hf, Bool.or_false]
            unfold stepF
            rw [if_pos (decide_eq_true hM), show q - 1 + 1 = q by omega]
          · refine Ult.no (decide_eq_false h0) (Ult.bindc hin (next2 _ hq2 (hF.put (by omega) ?_)))
            rw [hs, hf, show q = 0 by omega]; rfl
      · have hs : stepF (decide (c = 42)) (fun j => decide (c = 63) || decide (c = bt s (j : Int))) F q = (decide (0 < q) && (F (q - 1) && (decide (c = 63) || decide (c = bt s ((q - 1 : Nat) : Int))))) := by unfold stepF; rw [if_neg (by simp [hM])]
        refine Ult.no (decide_eq_false hM) ?_
        by_cases h0 : 0 < q
        · refine Ult.yes (decide_eq_true h0) ?_
          rw [ipred h0 (Nat.le_of_lt hq2) (by omega)]
          refine Ult.bindc (hI.at (by omega)) ?_
          rw [decide_eq_true h0, Bool.true_and] at hs
          cases hp : F (q - 1) with
          | true =>
            rw [hp, Bool.true_and] at hs
            refine Ult.yes rfl (Ult.bindc hbt ?_)
            rw [ieq_eq]
            by_cases h63 : c = 63
            · exact Ult.yes (decide_eq_true h63) (Ult.bindc hin (next2 _ hq2 (hF.put (by omega) (by rw [hs, decide_eq_true h63]; rfl))))
            · refine Ult.no (decide_eq_false h63) (Ult.bindc hbt (Ult.bindc (bt?_get (show q - 1 < s.size by omega)) (Ult.bindc hin (next2 _ hq2 (hF.put (by omega) ?_)))))
              rw [hs, decide_eq_false h63, ieq_eq, Bool.false_or]
          | false => exact Ult.no rfl (Ult.bindc hin (next2 _ hq2 (hF.put (by omega) (by rw [hs, hp]; rfl))))
        · exact Ult.no (decide_eq_false h0) (Ult.bindc hin (next2 _ hq2 (hF.put (by omega) (by rw [hs, decide_eq_false h0]; rfl))))
    · refine Ult.no (by rw [ile_eq]; exact decide_eq_false (by unfold ssz; omega)) ?_
      rw [show q = s.size + 1 by omega] at hF
      exact (next' nx hF.holds).lift
  · refine Ult.no (decide_eq_false hlt) (Ult.bindc (by unfold len ssz; rw [hI.1]; exact inb_ok (by omega)) (Ult.ret.eq ?_))
    rw [List.drop_eq_nil_of_le (by omega)]
    show gt false can (ssz s) = F s.size
    rw [← hI.2 s.size (Nat.le_refl _)]
    unfold gt ssz
    rw [Int.toNat_natCast]
def fitP (p s : ByteArray) : Bool := fitL (fun c => decide (c = dbl)) (fun c j => fitB c ((parts s).getD j ⟨#[]⟩)) (parts p) (parts s).length
theorem pathFits_spec (p s : ByteArray) (hp : p.size ≤ 200) (hs : s.size ≤ 200) : Ultk (fun k => S20 k (p, s, ())) (fitP p s) := by
  unfold S20
  have l1 := parts_len p
  have l2 := parts_len s
  refine Ult.bind (split_spec p (by omega)) (Ult.bind (split_spec s (by omega)) ?_)
  refine Ult.bind (a := fitP p s) ?_ Ult.ret
  unfold S38 fitP
  exact fits_loop (kk := fun k : Nat => k) (fun _ => Nat.le_refl _) (parts p) (parts s) (fun k c => S39 k (c, ())) (fun k c => S40 k (c.1, c.2, ())) (fun c => decide (c = dbl)) (fun c j => fitB c ((parts s).getD j ⟨#[]⟩))
    (fun c _ => by unfold S39; exact Ult.ret.eq (seq_eq _ _)) (fun c hc j hj => by
      have h1 := parts_size hc
      have h2 := parts_size (List.getElem_mem hj)
      have e : (parts s).getD j ⟨#[]⟩ = (parts s)[j] := by simp [List.getD_eq_getElem?_getD, hj]
      rw [e]
      exact partFits_spec c (parts s)[j] (by omega) (by omega)) (by omega) (by omega)
/-- the reference's table of a path -/
theorem fitsOf_spec (p s : ByteArray) (hp : p.size ≤ 200) (hs : s.size ≤ 200) : Ultk (fun k => S46 k (p, s, ())) (fitP p s) := by
  unfold S46 fitP
  have l1 := parts_len p
  have l2 := parts_len s
  refine Ult.bind (split_spec s (by omega)) ?_
  have hsz : ∀ x ∈ parts s, x.size ≤ 200 := fun x hx => by have := parts_size hx; omega
  have hpz : ∀ x ∈ parts p, x.size ≤ 200 := fun x hx => by have := parts_size hx; omega
  generalize parts s = B at l2 hsz
  have e1 : iadd .i64 (len B) 1 = ((B.length + 1 : Nat) : Int) := by unfold len; rw [iadd64 (by omega) (by omega)]; rfl
  rw [e1]
  refine Ult.bindc (mk_ok _ (by omega)) (Ult.bindc (by unfold len; exact inb_ok (i := 0) (by simp)) (Ult.bind (split_spec p (by omega)) ?_))
  generalize parts p = A at l1 hpz
  refine (Ult.forA (A := List Bool × (Nat → Bool)) (fun _ => Nat.le_refl _) A.length (fun a j => (a.1, (j : Int))) (fun a j => Holds a.1 B.length a.2) (fun a j => tabF (fun c => decide (c = dbl)) (fun c j => fitB c (B.getD j ⟨#[]⟩)) (A.drop j) a.2 B.length) (_, fun k => decide (k = 0)) (Holds.first B.length) fun a j hj hI next => ?_).eq (by rw [List.drop_zero]; rfl)
  obtain ⟨can, F⟩ := a
  replace hI : Holds can _ F := hI
  dsimp only
  rw [iltL]
  by_cases hlt : j < A.length
  · refine Ult.yes (decide_eq_true hlt) (Ult.bindc (mk_ok _ (by omega)) ?_)
    rw [drop_cons hlt, isucc hlt (by omega)]
    have hat := at?_nat hlt
    have hcz := hpz _ (List.getElem_mem hlt)
    generalize A[j] = c at hat hcz
    have next' := fun nx => next (nx, stepF (decide (c = dbl)) (fun j => fitB c (B.getD j ⟨#[]⟩)) F) hlt
    clear next
    dsimp only at next'
    show Ult _ _ (tabF _ _ (A.drop (j + 1)) (stepF (decide (c = dbl)) (fun j => fitB c (B.getD j ⟨#[]⟩)) F) B.length)
    refine Ult.forA (A := List Bool) (lp_le _ _ fun _ => Nat.le_refl _) (B.length + 1) (fun a q => ((q : Int), a)) (fun a q => Filled a B.length q (stepF (decide (c = dbl)) (fun j => fitB c (B.getD j ⟨#[]⟩)) F)) (fun _ _ => tabF _ _ (A.drop (j + 1)) (stepF (decide (c = dbl)) (fun j => fitB c (B.getD j ⟨#[]⟩)) F) B.length) _ (Filled.start _ _) fun nx q hq hF next2 => ?_
    have hn : len nx = ((B.length + 1 : Nat) : Int) := by unfold len; rw [hF.1]
    dsimp only at next2 hF ⊢
    by_cases hq2 : q < B.length + 1
    · have hin : inb (len nx) (q : Int) = some () := inb_ok (by rw [hn]; omega)
      refine Ult.yes (by rw [ile_eq]; exact decide_eq_true (by unfold len; omega)) (Ult.bindc hat ?_)
      rw [isucc hq2 (by omega), igt0, seq_eq]
      by_cases hM : c = dbl
      · have hs : stepF (decide (c = dbl)) (fun j => fitB c (B.getD j ⟨#[]⟩)) F q = ((List.range q).any F || F q) := by unfold stepF; rw [if_pos (decide_eq_true hM), any_range]
        refine Ult.yes (decide_eq_true hM) (Ult.bindc (hI.at (by omega)) ?_)
        cases hf : F q with
        | true => exact Ult.yes rfl (Ult.bindc hin (next2 _ hq2 (hF.put (by omega) (by rw [hs, hf]; simp))))
        | false =>
          refine Ult.no rfl ?_
          by_cases h0 : 0 < q
          · refine Ult.yes (decide_eq_true h0) ?_
            rw [ipred h0 (Nat.le_of_lt hq2) (by omega)]
            refine Ult.bindc (inb_ok (by rw [hn]; omega)) (Ult.bindc hin (next2 _ hq2 (hF.put (by omega) ?_)))
            unfold gt
            rw [Int.toNat_natCast, hF.2.1 (q - 1) (by omega), hs, hf, Bool.or_false]
            unfold stepF
            rw [if_pos (decide_eq_true hM), show q - 1 + 1 = q by omega]
          · refine Ult.no (decide_eq_false h0) (Ult.bindc hin (next2 _ hq2 (hF.put (by omega) ?_)))
            rw [hs, hf, show q = 0 by omega]; rfl
      · have hs : stepF (decide (c = dbl)) (fun j => fitB c (B.getD j ⟨#[]⟩)) F q = (decide (0 < q) && (F (q - 1) && fitB c (B.getD (q - 1) ⟨#[]⟩))) := by unfold stepF; rw [if_neg (by simp [hM])]
        refine Ult.no (decide_eq_false hM) ?_
        by_cases h0 : 0 < q
        · refine Ult.yes (decide_eq_true h0) ?_
          rw [ipred h0 (Nat.le_of_lt hq2) (by omega)]
          refine Ult.bindc (hI.at (by omega)) ?_
          rw [decide_eq_true h0, Bool.true_and] at hs
          cases hp : F (q - 1) with
          | true =>
            rw [hp, Bool.true_and] at hs
            have hj1 : q - 1 < B.length := by omega
            have e : B.getD (q - 1) ⟨#[]⟩ = B[q - 1] := by simp [List.getD_eq_getElem?_getD, hj1]
            rw [e] at hs
            have hbz := hsz _ (List.getElem_mem hj1)
            have hcall : Ult (lp (lp fun k : Nat => k)) (fun p => S69 p.1.1 (c, B[q - 1], ())) (fitB c B[q - 1]) := Ult.call (l := lp (lp fun k : Nat => k)) (k := fun p => p.1.1) (f := fun k => S69 k (c, B[q - 1], ())) (lp_le _ _ (lp_le _ _ fun _ => Nat.le_refl _)) (refPart_spec c B[q - 1] (by omega) (by omega))
            refine Ult.yes rfl (Ult.bindc hat (Ult.bindc (at?_nat hj1) (Ult.bind hcall (Ult.bindc hin ?_))))
            exact next2 _ hq2 (hF.put (by omega) hs.symm)
          | false => exact Ult.no rfl (Ult.bindc hin (next2 _ hq2 (hF.put (by omega) (by rw [hs, hp]; rfl))))
        · exact Ult.no (decide_eq_false h0) (Ult.bindc hin (next2 _ hq2 (hF.put (by omega) (by rw [hs, decide_eq_false h0]; rfl))))
    · refine Ult.no (by rw [ile_eq]; exact decide_eq_false (by unfold len; omega)) ?_
      rw [show q = B.length + 1 by omega] at hF
      exact (next' nx hF.holds).lift
  · refine Ult.no (decide_eq_false hlt) (Ult.bindc (by unfold len; rw [hI.1]; exact inb_ok (by omega)) (Ult.ret.eq ?_))
    rw [List.drop_eq_nil_of_le (by omega)]
    show gt false can (len B) = F B.length
    rw [← hI.2 B.length (Nat.le_refl _)]
    unfold gt len
    rw [Int.toNat_natCast]
end Go.Proofs.YtocgdpnealaoeaaDoor.Ev

namespace Go.Proofs.YtocgdpnealaoeaaDoor.Ev
open Go Go.RowKit
set_option linter.unusedVariables false
set_option linter.unusedSimpArgs false
variable {ι R α β X : Type} {l : ι → Nat}
/-- does one of them hold -/
theorem anyF_spec {kk : ι → Nat} (hk : ∀ i, l i ≤ kk i) (A : List ByteArray) (m : ι → ByteArray → Option Bool) (M : ByteArray → Bool) (hm : ∀ c ∈ A, Ult l (fun i => m i c) (M c)) (hA : A.length ≤ 140737488355328) : Ult l (fun i => S21 (kk i) (A, m i, ())) (A.any M) := by
  unfold S21 S41
  have key : Ult l (fun i => loopN (kk i) (fun (a2 : (Int → (Option Int))) (a3 : Int) => cnd (ilt a3 (len A)) (bnd (at? A a3) (fun (a4 : ByteArray) => bnd (m i a4) (fun (a5 : Bool) => cnd a5 (some a3) (a2 (iadd Go.IntKind.i64 a3 1))))) (some (-1))) 0) (if A.any M then ((A.findIdx M : Nat) : Int) else -1) := by
    refine (Ult.forI hk A.length (fun j => if (A.drop j).any M then (((j + (A.drop j).findIdx M : Nat)) : Int) else -1) fun j hj next => ?_).eq (by simp)
    rw [iltL]
    by_cases hlt : j < A.length
    · refine Ult.yes (decide_eq_true hlt) (Ult.bindc (at?_nat hlt) (Ult.bind (hm A[j] (List.getElem_mem hlt)).lift ?_))
      rw [isucc hlt (by omega), drop_cons hlt, List.any_cons, List.findIdx_cons]
      cases hb : M A[j] with
      | true => exact Ult.yes rfl (Ult.ret.eq (by simp))
      | false => exact Ult.no rfl ((next hlt).eq (by simp only [Bool.false_or, cond_false]; rw [show j + 1 + (A.drop (j + 1)).findIdx M = j + ((A.drop (j + 1)).findIdx M + 1) by omega]))
    · refine Ult.no (decide_eq_false hlt) (Ult.ret.eq ?_)
      rw [List.drop_eq_nil_of_le (by omega)]; rfl
  refine Ult.bind key ?_
  have : ige (if A.any M then ((A.findIdx M : Nat) : Int) else -1) 0 = A.any M := by
    cases A.any M
    · rfl
    · exact decide_eq_true (by simp)
  rw [this]
  exact Ult.ret
theorem fitsOne_spec (A : List ByteArray) (s : ByteArray) (hs : s.size ≤ 200) (hA : A.length ≤ 140737488355328) (hp : ∀ p ∈ A, p.size ≤ 200) : Ultk (fun k => S24 k (A, s, ())) (A.any fun p => fitP p s) := by
  unfold S24
  refine (Ult.forI (fun _ => Nat.le_refl _) A.length (fun j => (A.drop j).any fun p => fitP p s) fun j hj next => ?_).eq (by rw [List.drop_zero])
  rw [iltL]
  by_cases hlt : j < A.length
  · have hc : Ult (lp fun k : Nat => k) (fun p => S46 p.1 (A[j], s, ())) (fitP A[j] s) := Ult.call (l := lp fun k : Nat => k) (k := fun p => p.1) (f := fun k => S46 k (A[j], s, ())) (lp_le _ _ fun _ => Nat.le_refl _) (fitsOf_spec A[j] s (hp _ (List.getElem_mem hlt)) hs)
    refine Ult.yes (decide_eq_true hlt) (Ult.bindc (at?_nat hlt) (Ult.bind hc ?_))
    rw [isucc hlt (by omega), drop_cons hlt, List.any_cons]
    cases hb : fitP A[j] s with
    | true => exact Ult.yes rfl (Ult.ret.eq (by simp))
    | false => exact Ult.no rfl ((next hlt).eq (by simp))
  · refine Ult.no (decide_eq_false hlt) (Ult.ret.eq ?_)
    rw [List.drop_eq_nil_of_le (by omega)]; rfl
def wantF (W N : List ByteArray) (x : File) : Bool := (W.any fun p => fitP p x.1) && !(N.any fun p => fitP p x.1)
def sel (L : List File) (W N : List ByteArray) : List ByteArray := (L.filter (wantF W N)).map (·.1)
theorem sel_succ {L : List File} {W N : List ByteArray} {j : Nat} (h : j < L.length) : sel (L.take (j + 1)) W N = sel (L.take j) W N ++ (if wantF W N L[j] = true then [L[j].1] else []) := by
  unfold sel
  rw [List.take_succ_eq_append_getElem h, List.filter_append, List.map_append]
  cases hb : wantF W N L[j] <;> simp [hb]
theorem sel_len {L : List File} {W N : List ByteArray} : (sel L W N).length ≤ L.length := by
  unfold sel
  rw [List.length_map]
  exact List.length_filter_le _ _
def pats (A : List ByteArray) : Bool := A.all patOK
theorem chkPat_zero {p : ByteArray} : chkPat p = 0 ↔ patOK p = true := by
  unfold chkPat
  cases patOK p <;> simp
def selAns (L : List File) (W N : List ByteArray) : List ByteArray × Int := if chkFiles L ≠ 0 then ([], chkFiles L) else if pats (W ++ N) = true then (sel L W N, 0) else ([], 3)
/-- a list of patterns is looked at; what comes then -/
theorem pats_loop {kk : ι → Nat} (hk : ∀ i, l i ≤ kk i) (f : Nat → ByteArray × Unit → Option Int) (hf : ∀ p, Ultk (fun k => f k (p, ())) (chkPat p)) (A : List ByteArray) (hA : A.length ≤ 9223372036854775807) (E : ι → Option (List ByteArray × Int)) (r : List ByteArray × Int) (hE : (∀ p ∈ A, patOK p = true) → Ult l E r) :
    Ult l (fun i => loopN (kk i) (fun (a4 : (Int → (Option ((List ByteArray) × Int)))) (a5 : Int) => cnd (ilt a5 (len A)) (bnd (at? A a5) (fun (a6 : ByteArray) => bnd (f (kk i) (a6, ())) (fun (a7 : Int) => cnd (ine a7 0) (some (([] : List ByteArray), a7)) (a4 (iadd Go.IntKind.i64 a5 1))))) (E i)) 0) (if pats A = true then r else ([], 3)) := by
  refine (Ult.forA (A := Unit) hk A.length (fun _ j => (j : Int)) (fun _ j => ∀ (i : Nat) (h : i < A.length), i < j → patOK A[i] = true) (fun _ j => if pats (A.drop j) = true then r else ([], 3)) () (fun i h hi => by omega) fun _ j hj hI next => ?_).eq (by rw [List.drop_zero])
  rw [iltL]
  by_cases hlt : j < A.length
  · refine Ult.yes (decide_eq_true hlt) (Ult.bindc (at?_nat hlt) (Ult.bind (Ult.call (l := lp l) (f := fun k => f k (A[j], ())) (lp_le _ _ hk) (hf _)) ?_))
    rw [isucc hlt hA, drop_cons hlt]
    unfold pats at next ⊢
    rw [List.all_cons, ine_eq]
    unfold chkPat
    cases hb : patOK A[j] with
    | true => exact Ult.no rfl ((next () hlt fun i h hi => by
        rcases Nat.lt_or_ge i j with z | z
        · exact hI i h z
        · have : i = j := by omega
          subst this; exact hb).eq (by simp))
    | false => exact Ult.yes rfl (Ult.ret.eq (by simp))
  · refine Ult.no (decide_eq_false hlt) ?_
    rw [List.drop_eq_nil_of_le (by omega)]
    exact (hE fun p hp => by
      obtain ⟨i, hi, rfl⟩ := List.getElem_of_mem hp
      exact hI i hi (by omega)).lift
theorem concat_spec (W N : List ByteArray) (hW : W.length * 16 ≤ 140737488355328) (hN : N.length * 16 ≤ 140737488355328) : Ultk (fun k => S17 k ((W :: (N :: ([] : List (List ByteArray)))), ())) (W ++ N) :=
  ⟨0, fun k _ => by unfold S17; exact if_pos ⟨hW, hN⟩⟩
theorem select_spec (L : List File) (W N : List ByteArray) (hW : W.length * 16 ≤ 140737488355328) (hN : N.length * 16 ≤ 140737488355328) : Ultk (fun k => S7 k (L, W, N, ())) (selAns L W N) := by
  unfold S7 selAns
  refine Ult.bind (checkFiles_spec L) (Ult.ifS (ine_eq _ _) (fun _ => Ult.ret) fun h0 => ?_)
  have hc := chkFiles_ok (Decidable.not_not.1 h0)
  refine Ult.bind (concat_spec W N hW hN) ?_
  refine pats_loop (fun _ => Nat.le_refl _) S18 checkPattern_spec (W ++ N) (by rw [List.length_append]; omega) _ _ fun hp => ?_
  refine (Ult.forA (A := List ByteArray) (fun _ => Nat.le_refl _) L.length (fun a j => (a, (j : Int))) (fun a j => a = sel (L.take j) W N) (fun a j => (sel L W N, (0 : Int))) [] (by simp [sel]) fun a j hj hI next => ?_)
  dsimp only at next ⊢
  rw [iltL]
  by_cases hlt : j < L.length
  · have hx : isPathD L[j].1 = true := hc.2.1 _ (List.getElem_mem hlt)
    have hsz := (isPathD_size hx).2
    have hA : ∀ (A : List ByteArray), A.length * 16 ≤ 140737488355328 → (∀ p ∈ A, p ∈ W ++ N) → Ult (lp fun k : Nat => k) (fun p => S21 p.1 (A, fun (a9 : ByteArray) => S19 p.1 (a9, (L[j].1, L[j].2.1, L[j].2.2), ()), ())) (A.any fun q => fitP q L[j].1) := fun A hA hm =>
      anyF_spec (lp_le _ _ fun _ => Nat.le_refl _) A _ _ (fun q hq => by
        unfold S19
        exact Ult.bind (Ult.call (l := lp fun k : Nat => k) (k := fun p => p.1) (f := fun k => S20 k (q, L[j].1, ())) (lp_le _ _ fun _ => Nat.le_refl _) (pathFits_spec q L[j].1 (patOK_size (hp q (hm q hq))).2 hsz)) Ult.ret) (by omega)
    refine Ult.yes (decide_eq_true hlt) (Ult.bindc (at?_nat hlt) (Ult.bind (hA W hW fun q hq => List.mem_append_left _ hq) ?_))
    rw [isucc hlt (by omega)]
    have hs := sel_succ (W := W) (N := N) hlt
    cases h1 : W.any fun q => fitP q L[j].1 with
    | false => exact Ult.no rfl (next a hlt (by rw [hs, hI]; simp [wantF, h1]))
    | true =>
      refine Ult.yes rfl (Ult.bind (hA N hN fun q hq => List.mem_append_right _ hq) ?_)
      cases h2 : N.any fun q => fitP q L[j].1 with
      | true => exact Ult.no rfl (next a hlt (by rw [hs, hI]; simp [wantF, h1, h2]))
      | false =>
        have hl : a.length ≤ 1000 := by
          rw [hI]
          have := sel_len (L := L.take j) (W := W) (N := N)
          have := List.length_take_le j L
          omega
        exact Ult.yes rfl (Ult.bindc (app?_ok (by simp; omega)) (next _ hlt (by rw [hs, hI]; simp [wantF, h1, h2])))
  · exact Ult.no (decide_eq_false hlt) (Ult.ret.eq (by rw [hI, List.take_of_length_le (by omega)]))
theorem selectR_spec (L : List File) (W N : List ByteArray) (hW : W.length * 16 ≤ 140737488355328) (hN : N.length * 16 ≤ 140737488355328) : Ultk (fun k => S8 k (L, W, N, ())) (selAns L W N) := by
  unfold S8 selAns
  refine Ult.bind (checkFilesR_spec L) (Ult.ifS (ine_eq _ _) (fun _ => Ult.ret) fun h0 => ?_)
  have hc := chkFiles_ok (Decidable.not_not.1 h0)
  refine (pats_loop (fun _ => Nat.le_refl _) S23 checkPatternR_spec W (by omega) _ (if pats N = true then (sel L W N, 0) else ([], 3)) fun hpW => ?_).eq (by
    unfold pats
    rw [List.all_append]
    cases W.all patOK <;> cases N.all patOK <;> simp)
  refine pats_loop (fun _ => Nat.le_refl _) S23 checkPatternR_spec N (by omega) _ _ fun hpN => ?_
  refine (Ult.forA (A := List ByteArray) (fun _ => Nat.le_refl _) L.length (fun a j => (a, (j : Int))) (fun a j => a = sel (L.take j) W N) (fun a j => (sel L W N, (0 : Int))) [] (by simp [sel]) fun a j hj hI next => ?_)
  dsimp only at next ⊢
  rw [iltL]
  by_cases hlt : j < L.length
  · have hx : isPathD L[j].1 = true := hc.2.1 _ (List.getElem_mem hlt)
    have hsz := (isPathD_size hx).2
    have hA : ∀ (A : List ByteArray), A.length * 16 ≤ 140737488355328 → (∀ p ∈ A, patOK p = true) → Ult (lp fun k : Nat => k) (fun p => S24 p.1 (A, L[j].1, ())) (A.any fun q => fitP q L[j].1) := fun A hA hm =>
      Ult.call (l := lp fun k : Nat => k) (k := fun p => p.1) (f := fun k => S24 k (A, L[j].1, ())) (lp_le _ _ fun _ => Nat.le_refl _) (fitsOne_spec A L[j].1 hsz (by omega) fun q hq => (patOK_size (hm q hq)).2)
    refine Ult.yes (decide_eq_true hlt) (Ult.bindc (at?_nat hlt) (Ult.bind (hA W hW hpW) ?_))
    rw [isucc hlt (by omega)]
    have hs := sel_succ (W := W) (N := N) hlt
    cases h1 : W.any fun q => fitP q L[j].1 with
    | false => exact Ult.no rfl (next a hlt (by rw [hs, hI]; simp [wantF, h1]))
    | true =>
      refine Ult.yes rfl (Ult.bindc (at?_nat hlt) (Ult.bind (hA N hN hpN) ?_))
      cases h2 : N.any fun q => fitP q L[j].1 with
      | true => exact Ult.no rfl (next a hlt (by rw [hs, hI]; simp [wantF, h1, h2]))
      | false =>
        have hl : a.length ≤ 1000 := by
          rw [hI]
          have := sel_len (L := L.take j) (W := W) (N := N)
          have := List.length_take_le j L
          omega
        exact Ult.yes rfl (Ult.bindc (at?_nat hlt) (Ult.bindc (app?_ok (by simp; omega)) (next _ hlt (by rw [hs, hI]; simp [wantF, h1, h2]))))
  · exact Ult.no (decide_eq_false hlt) (Ult.ret.eq (by rw [hI, List.take_of_length_le (by omega)]))
theorem selAns_len {L : List File} {W N : List ByteArray} : (selAns L W N).1.length ≤ 1000 := by
  unfold selAns
  by_cases h : chkFiles L = 0
  · rw [if_neg (by simp [h])]
    have := (chkFiles_ok h).1
    have := sel_len (L := L) (W := W) (N := N)
    split
    · show (sel L W N).length ≤ 1000; omega
    · simp
  · rw [if_pos h]; simp
theorem equalS_spec (A : List ByteArray) (h : A.length ≤ 140737488355328) : Ultk (fun k => S9 k (A, A, ())) true := by
  unfold S9
  refine Ult.no (by rw [ine_eq]; simp) ?_
  refine Ult.forI (fun _ => Nat.le_refl _) A.length (fun _ => true) fun j hj next => ?_
  rw [iltL]
  by_cases hlt : j < A.length
  · refine Ult.yes (decide_eq_true hlt) (Ult.bindc (at?_nat hlt) (Ult.bindc (at?_nat hlt) (Ult.no (by rw [sne_eq]; simp) ?_)))
    rw [isucc hlt (by omega)]
    exact next hlt
  · exact Ult.no (decide_eq_false hlt) Ult.ret
theorem cloneS_spec (A : List ByteArray) (h : A.length * 16 ≤ 140737488355328) : Ultk (fun k => S6 k (A, ())) A :=
  ⟨0, fun k _ => by unfold S6; exact if_pos h⟩
end Go.Proofs.YtocgdpnealaoeaaDoor.Ev

namespace Go.Proofs.YtocgdpnealaoeaaDoor.Ev
open Go Go.RowKit
set_option linter.unusedVariables false
theorem FSz.of {L : List File} (h : WfS 48 (fun x => (fun s => s.size ≤ 140737488351232) x.1 ∧ (fun x => (fun _ => True) x.1 ∧ (WfS 1 (fun n => (Lit.int .u8 n).wf = true)) x.2) x.2) L) : FSz L :=
  ⟨by have := h.2.1; omega, fun x hx => by have := (h.2.2 x hx).2.2.2.1; omega, fun x hx => by have := (h.2.2 x hx).1; omega⟩
theorem FSz.len' {L : List File} (h : FSz L) : L.length ≤ 9223372036854775807 := by have := h.len; omega
theorem some_of {f : Nat → Option Bool} (h : Ultk f true) : ∃ k, f k = some true := by
  obtain ⟨K, h⟩ := h
  exact ⟨K, h K (Nat.le_refl _)⟩
theorem BlobSelectsMatchSpecPure : BlobSelectsMatchSpecStated := by
  intro L W N hL hW hN
  have hL := FSz.of hL
  have hW1 : W.length * 16 ≤ 140737488351232 := hW.2.1
  have hN1 : N.length * 16 ≤ 140737488351232 := hN.2.1
  refine some_of ?_
  unfold S3
  refine Ult.bind (copyFiles_spec L hL) (Ult.bind (cloneS_spec W (by omega)) (Ult.bind (cloneS_spec N (by omega)) ?_))
  refine Ult.bind (select_spec L W N (by omega) (by omega)) (Ult.bind (selectR_spec L W N (by omega) (by omega)) ?_)
  refine Ult.bind (equalS_spec _ (Nat.le_trans selAns_len (by decide))) (Ult.yes rfl (Ult.yes (ieq_self _) ?_))
  refine Ult.bind (sameFiles_spec _ _ hL.len') (Ult.yes (sameFs_self _) ?_)
  refine Ult.bind (equalS_spec W (by omega)) (Ult.yes rfl (Ult.bind (equalS_spec N (by omega)) (Ult.yes rfl ?_)))
  exact Ult.bind awake_spec Ult.ret
end Go.Proofs.YtocgdpnealaoeaaDoor.Ev
