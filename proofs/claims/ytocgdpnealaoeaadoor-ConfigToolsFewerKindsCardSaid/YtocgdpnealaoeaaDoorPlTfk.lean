/- The plain laws (this session's own). No condition but those in the statements. -/
import Derived.Test.YtocgdpnealaoeaaDoorFTfk
import Derived.Test.YtocgdpnealaoeaaDoorEv5
import Derived.Test.YtocgdpnealaoeaaDoorEvD
import Derived.Test.YtocgdpnealaoeaaDoorEvK
import Derived.Sort.Walk0
namespace Go.Proofs.YtocgdpnealaoeaaDoor.Ev
open Go Go.RowKit
/-- THE ONE PURE STATEMENT. -/
def ConfigToolsFewerKindsStated : Prop := ∀ (x0 : (.agg (.pair (.slice (.agg (.pair (.str) (.slice (.str))))) (.pair (.slice (.agg (.pair (.str) (.pair (.slice (.agg (.pair (.str) (.str)))) (.slice (.agg (.pair (.str) (.str)))))))) (.pair (.slice (.agg (.pair (.str) (.slice (.agg (.pair (.str) (.str))))))) (.pair (.slice (.agg (.pair (.str) (.pair (.str) (.pair (.slice (.agg (.pair (.str) (.str)))) (.slice (.agg (.pair (.str) (.str))))))))) (.slice (.agg (.pair (.str) (.pair (.slice (.agg (.pair (.str) (.str)))) (.slice (.str)))))))))) : Kd).T) (x1 : (.slice (.str) : Kd).T) (x2 : (.agg (.pair (.str) (.slice (.agg (.pair (.str) (.str))))) : Kd).T) (x3 : (.int .i64 : Kd).T), (fun x => (WfS 40 (fun x => (fun s => s.size ≤ 140737488351232) x.1 ∧ (WfS 16 (fun s => s.size ≤ 140737488351232)) x.2)) x.1 ∧ (fun x => (WfS 64 (fun x => (fun s => s.size ≤ 140737488351232) x.1 ∧ (fun x => (WfS 32 (fun x => (fun s => s.size ≤ 140737488351232) x.1 ∧ (fun s => s.size ≤ 140737488351232) x.2)) x.1 ∧ (WfS 32 (fun x => (fun s => s.size ≤ 140737488351232) x.1 ∧ (fun s => s.size ≤ 140737488351232) x.2)) x.2) x.2)) x.1 ∧ (fun x => (WfS 40 (fun x => (fun s => s.size ≤ 140737488351232) x.1 ∧ (WfS 32 (fun x => (fun s => s.size ≤ 140737488351232) x.1 ∧ (fun s => s.size ≤ 140737488351232) x.2)) x.2)) x.1 ∧ (fun x => (WfS 80 (fun x => (fun s => s.size ≤ 140737488351232) x.1 ∧ (fun x => (fun s => s.size ≤ 140737488351232) x.1 ∧ (fun x => (WfS 32 (fun x => (fun s => s.size ≤ 140737488351232) x.1 ∧ (fun s => s.size ≤ 140737488351232) x.2)) x.1 ∧ (WfS 32 (fun x => (fun s => s.size ≤ 140737488351232) x.1 ∧ (fun s => s.size ≤ 140737488351232) x.2)) x.2) x.2) x.2)) x.1 ∧ (WfS 64 (fun x => (fun s => s.size ≤ 140737488351232) x.1 ∧ (fun x => (WfS 32 (fun x => (fun s => s.size ≤ 140737488351232) x.1 ∧ (fun s => s.size ≤ 140737488351232) x.2)) x.1 ∧ (WfS 16 (fun s => s.size ≤ 140737488351232)) x.2) x.2)) x.2) x.2) x.2) x.2) x0 → (WfS 16 (fun s => s.size ≤ 140737488351232)) x1 → (fun x => (fun s => s.size ≤ 140737488351232) x.1 ∧ (WfS 32 (fun x => (fun s => s.size ≤ 140737488351232) x.1 ∧ (fun s => s.size ≤ 140737488351232) x.2)) x.2) x2 → (fun n => (Lit.int .i64 n).wf = true) x3 → ∃ k, S4 k (x0, x1, x2, x3, ()) = some true
end Go.Proofs.YtocgdpnealaoeaaDoor.Ev

namespace Go.Proofs.YtocgdpnealaoeaaDoor.Ev
open Go.RowKit
set_option linter.unusedVariables false

/-- from some number of rounds on; l: the least of all numbers of rounds that matter -/
def Ult {ι R : Type} (l : ι → Nat) (f : ι → Option R) (r : R) : Prop := ∃ K, ∀ i, K ≤ l i → f i = some r
variable {ι R α : Type} {l : ι → Nat}
theorem Ult.ret {r : R} : Ult l (fun _ => some r) r := ⟨0, fun _ _ => rfl⟩
theorem Ult.congr {f g : ι → Option R} {r : R} (h : Ult l f r) (e : ∀ i, g i = f i) : Ult l g r := by
  obtain ⟨K, h⟩ := h
  exact ⟨K, fun i hi => (e i).trans (h i hi)⟩
theorem Ult.bind {f : ι → Option α} {g : ι → α → Option R} {a : α} {r : R} (h : Ult l f a) (k : Ult l (fun i => g i a) r) : Ult l (fun i => bnd (f i) (g i)) r := by
  obtain ⟨K, h⟩ := h
  obtain ⟨L, k⟩ := k
  refine ⟨max K L, fun i hi => ?_⟩
  show Option.bind (f i) (g i) = some r
  rw [h i (by omega)]
  exact k i (by omega)
theorem Ult.bindc {m : Option α} {g : ι → α → Option R} {a : α} {r : R} (h : m = some a) (k : Ult l (fun i => g i a) r) : Ult l (fun i => bnd m (g i)) r := Ult.bind ⟨0, fun _ _ => h⟩ k
theorem Ult.yes {c : Bool} {f g : ι → Option R} {r : R} (hc : c = true) (h : Ult l f r) : Ult l (fun i => cnd c (f i) (g i)) r := by subst hc; exact h
theorem Ult.no {c : Bool} {f g : ι → Option R} {r : R} (hc : c = false) (h : Ult l g r) : Ult l (fun i => cnd c (f i) (g i)) r := by subst hc; exact h
theorem Ult.ite {c : Bool} {f g : ι → Option R} {r : R} (h : c = true → Ult l f r) (k : c = false → Ult l g r) : Ult l (fun i => cnd c (f i) (g i)) r := by
  cases c
  · exact Ult.no rfl (k rfl)
  · exact Ult.yes rfl (h rfl)
/-- a function's own number of rounds -/
abbrev Ultk (f : Nat → Option R) (r : R) : Prop := Ult (fun k : Nat => k) f r
theorem Ult.call {f : Nat → Option R} {r : R} {k : ι → Nat} (hk : ∀ i, l i ≤ k i) (h : Ultk f r) : Ult l (fun i => f (k i)) r := by
  obtain ⟨K, h⟩ := h
  exact ⟨K, fun i hi => h (k i) (Nat.le_trans hi (hk i))⟩
theorem Ultk.call {f : Nat → Option R} {r : R} (h : Ultk f r) : Ultk (fun k => f k) r := h
/-- the rounds of a loop, told by a number of their own -/
def lp (l : ι → Nat) (p : ι × Nat) : Nat := min (l p.1) p.2
theorem lp_le (l : ι → Nat) (k : ι → Nat) (hk : ∀ i, l i ≤ k i) : ∀ p : ι × Nat, lp l p ≤ k p.1 := fun p => Nat.le_trans (Nat.min_le_left _ _) (hk _)
variable {X : Type}
theorem Ult.loop {st : ι → (X → Option R) → X → Option R} {x : X} {r : R} {k : ι → Nat} (hk : ∀ i, l i ≤ k i) (h : Ult (lp l) (fun p => loopN p.2 (st p.1) x) r) : Ult l (fun i => loopN (k i) (st i) x) r := by
  obtain ⟨K, h⟩ := h
  refine ⟨K, fun i hi => h (i, k i) ?_⟩
  have := hk i
  show K ≤ min (l i) (k i)
  omega
theorem Ult.round {st : ι → (X → Option R) → X → Option R} {x : X} {r : R} (h : Ult (lp l) (fun p => st p.1 (loopN p.2 (st p.1)) x) r) : Ult (lp l) (fun p => loopN p.2 (st p.1) x) r := by
  obtain ⟨K, h⟩ := h
  refine ⟨K + 1, fun p hp => ?_⟩
  obtain ⟨i, n⟩ := p
  have h1 : K + 1 ≤ min (l i) n := hp
  cases n with
  | zero => omega
  | succ n =>
    have h2 := h (i, n) (show K ≤ min (l i) n by omega)
    exact h2
/-- rounds by a measure -/
theorem Ult.rounds {st : ι → (X → Option R) → X → Option R} {r : R} (I : X → Prop) (μ : X → Nat) (h : ∀ x, I x → (∀ y, I y → μ y < μ x → Ult (lp l) (fun p => loopN p.2 (st p.1) y) r) → Ult (lp l) (fun p => st p.1 (loopN p.2 (st p.1)) x) r) :
    ∀ x, I x → Ult (lp l) (fun p => loopN p.2 (st p.1) x) r := by
  intro x
  generalize hn : μ x = n
  induction n using Nat.strongRecOn generalizing x with
  | _ n ih =>
    intro hI
    refine Ult.round (h x hI fun y hy hlt => ih (μ y) (by omega) y rfl hy)

/-- a loop by an invariant and a measure -/
theorem Ult.loopI {st : ι → (X → Option R) → X → Option R} {x : X} {r : R} {k : ι → Nat} (hk : ∀ i, l i ≤ k i) (I : X → Prop) (μ : X → Nat) (h0 : I x)
    (h : ∀ x, I x → (∀ y, I y → μ y < μ x → Ult (lp l) (fun p => loopN p.2 (st p.1) y) r) → Ult (lp l) (fun p => st p.1 (loopN p.2 (st p.1)) x) r) : Ult l (fun i => loopN (k i) (st i) x) r :=
  Ult.loop hk (Ult.rounds I μ h x h0)

/-! ### total correctness: it ends, and with what is wanted -/
def Fin {ι R : Type} (l : ι → Nat) (f : ι → Option R) (Q : R → Prop) : Prop := ∃ r, Q r ∧ Ult l f r
abbrev Fink {R : Type} (f : Nat → Option R) (Q : R → Prop) : Prop := Fin (fun k : Nat => k) f Q
variable {Q : R → Prop}
theorem Fin.ret {r : R} (h : Q r) : Fin l (fun _ => some r) Q := ⟨r, h, Ult.ret⟩
theorem Fin.bind {f : ι → Option α} {g : ι → α → Option R} {Qa : α → Prop} (h : Fin l f Qa) (k : ∀ a, Qa a → Fin l (fun i => g i a) Q) : Fin l (fun i => bnd (f i) (g i)) Q := by
  obtain ⟨a, ha, h⟩ := h
  obtain ⟨r, hr, k⟩ := k a ha
  exact ⟨r, hr, Ult.bind h k⟩
theorem Fin.bindu {f : ι → Option α} {g : ι → α → Option R} {a : α} (h : Ult l f a) (k : Fin l (fun i => g i a) Q) : Fin l (fun i => bnd (f i) (g i)) Q := by
  obtain ⟨r, hr, k⟩ := k
  exact ⟨r, hr, Ult.bind h k⟩
theorem Fin.bindc {m : Option α} {g : ι → α → Option R} {a : α} (h : m = some a) (k : Fin l (fun i => g i a) Q) : Fin l (fun i => bnd m (g i)) Q := Fin.bindu ⟨0, fun _ _ => h⟩ k
theorem Fin.ite {c : Bool} {f g : ι → Option R} (h : c = true → Fin l f Q) (k : c = false → Fin l g Q) : Fin l (fun i => cnd c (f i) (g i)) Q := by
  cases c
  · exact k rfl
  · exact h rfl
theorem Fin.mono {Q' : R → Prop} {f : ι → Option R} (h : Fin l f Q) (k : ∀ r, Q r → Q' r) : Fin l f Q' := by
  obtain ⟨r, hr, h⟩ := h
  exact ⟨r, k r hr, h⟩
theorem Fin.of {f : ι → Option R} {r : R} (h : Ult l f r) (hq : Q r) : Fin l f Q := ⟨r, hq, h⟩
theorem Fin.ult {f : ι → Option R} {r : R} (h : Fin l f (fun x => x = r)) : Ult l f r := by
  obtain ⟨_, rfl, h⟩ := h
  exact h
theorem Fin.call {f : Nat → Option R} {k : ι → Nat} (hk : ∀ i, l i ≤ k i) (h : Fink f Q) : Fin l (fun i => f (k i)) Q := by
  obtain ⟨r, hr, h⟩ := h
  exact ⟨r, hr, Ult.call hk h⟩
/-- a loop by an invariant and a measure -/
theorem Fin.loopI {st : ι → (X → Option R) → X → Option R} {x : X} {k : ι → Nat} (hk : ∀ i, l i ≤ k i) (I : X → Prop) (μ : X → Nat) (h0 : I x)
    (h : ∀ x, I x → (∀ y, I y → μ y < μ x → Fin (lp l) (fun p => loopN p.2 (st p.1) y) Q) → Fin (lp l) (fun p => st p.1 (loopN p.2 (st p.1)) x) Q) : Fin l (fun i => loopN (k i) (st i) x) Q := by
  have key : ∀ (n : Nat) (x : X), μ x = n → I x → Fin (lp l) (fun p => loopN p.2 (st p.1) x) Q := by
    intro n
    induction n using Nat.strongRecOn with
    | _ n ih =>
      intro x hn hI
      obtain ⟨r, hr, hu⟩ := h x hI fun y hy hlt => ih (μ y) (by omega) y rfl hy
      exact ⟨r, hr, Ult.round hu⟩
  obtain ⟨r, hr, hu⟩ := key _ x rfl h0
  exact ⟨r, hr, Ult.loop hk hu⟩
theorem Ult.lift {f : ι → Option R} {r : R} (h : Ult l f r) : Ult (lp l) (fun q => f q.1) r := by
  obtain ⟨K, h⟩ := h
  exact ⟨K, fun q hq => h q.1 (Nat.le_trans hq (Nat.min_le_left _ _))⟩
theorem Fin.lift {f : ι → Option R} (h : Fin l f Q) : Fin (lp l) (fun q => f q.1) Q := by
  obtain ⟨r, hr, h⟩ := h
  exact ⟨r, hr, h.lift⟩
theorem Ultk.unique {f : Nat → Option R} {a b : R} (h : Ultk f a) (k : Ultk f b) : a = b := by
  obtain ⟨K, h⟩ := h
  obtain ⟨L, k⟩ := k
  have h1 := h (max K L) (Nat.le_max_left _ _)
  rw [k (max K L) (Nat.le_max_right _ _)] at h1
  exact (Option.some.inj h1).symm

/-! ### the operations -/
theorem wrap64 {n : Int} (h0 : -9223372036854775808 ≤ n) (h1 : n ≤ 9223372036854775807) : IntKind.i64.wrap n = n := by
  rw [IntKind.wrap_i64]; omega
theorem iadd64 {a b : Int} (h0 : -9223372036854775808 ≤ a + b) (h1 : a + b ≤ 9223372036854775807) : iadd .i64 a b = a + b := wrap64 h0 h1
theorem isub64 {a b : Int} (h0 : -9223372036854775808 ≤ a - b) (h1 : a - b ≤ 9223372036854775807) : isub .i64 a b = a - b := wrap64 h0 h1
theorem at?_nat {l : List α} {i : Nat} (h : i < l.length) : at? l (i : Int) = some l[i] := by
  unfold at?
  rw [if_pos (Int.natCast_nonneg _), Int.toNat_natCast, List.getElem?_eq_getElem h]
theorem bt?_nat {s : ByteArray} {i : Nat} (h : i < s.size) : bt? s (i : Int) = some (bt s (i : Int)) := by
  unfold bt?
  rw [if_pos ⟨Int.natCast_nonneg _, by omega⟩]
theorem len_def {l : List α} : len l = (l.length : Int) := rfl

end Go.Proofs.YtocgdpnealaoeaaDoor.Ev

namespace Go.Proofs.YtocgdpnealaoeaaDoor.Ev
open Go Go.RowKit
set_option linter.unusedVariables false
set_option linter.unusedSimpArgs false
variable {ι R X A α β : Type} {l : ι → Nat}

/-- a loop by an index and what is gathered; 'res': what comes of it from there on -/
theorem Ult.forA {st : ι → (X → Option R) → X → Option R} {k : ι → Nat} (hk : ∀ i, l i ≤ k i) (n : Nat) (mk : A → Nat → X) (I : A → Nat → Prop) (res : A → Nat → R) (a0 : A) (h0 : I a0 0)
    (h : ∀ a j, j ≤ n → I a j → (∀ a', j < n → I a' (j + 1) → Ult (lp l) (fun p => loopN p.2 (st p.1) (mk a' (j + 1))) (res a' (j + 1))) → Ult (lp l) (fun p => st p.1 (loopN p.2 (st p.1)) (mk a j)) (res a j)) :
    Ult l (fun i => loopN (k i) (st i) (mk a0 0)) (res a0 0) := by
  have key : ∀ (d j : Nat) (a : A), n - j = d → j ≤ n → I a j → Ult (lp l) (fun p => loopN p.2 (st p.1) (mk a j)) (res a j) := by
    intro d
    induction d with
    | zero => intro j a hd hj hI; exact Ult.round (h a j hj hI fun a' hlt _ => by omega)
    | succ d ih => intro j a hd hj hI; exact Ult.round (h a j hj hI fun a' hlt hI' => ih (j + 1) a' (by omega) (by omega) hI')
  exact Ult.loop hk (key n 0 a0 (by omega) (Nat.zero_le _) h0)
theorem Ult.forI {st : ι → (Int → Option R) → Int → Option R} {k : ι → Nat} (hk : ∀ i, l i ≤ k i) (n : Nat) (res : Nat → R)
    (h : ∀ j, j ≤ n → (j < n → Ult (lp l) (fun p => loopN p.2 (st p.1) ((j + 1 : Nat) : Int)) (res (j + 1))) → Ult (lp l) (fun p => st p.1 (loopN p.2 (st p.1)) (j : Int)) (res j)) :
    Ult l (fun i => loopN (k i) (st i) 0) (res 0) :=
  Ult.forA (A := Unit) hk n (fun _ j => (j : Int)) (fun _ _ => True) (fun _ j => res j) () trivial fun _ j hj _ hn => h j hj fun hlt => hn () hlt trivial
theorem Ult.jn {f : ι → (X → Option R) → Option R} {g : ι → X → Option R} {r : R} (h : Ult l (fun i => f i (g i)) r) : Ult l (fun i => jn (f i) (g i)) r := h
theorem Ult.eq {f : ι → Option R} {r r' : R} (h : Ult l f r) (e : r = r') : Ult l f r' := e ▸ h
theorem Ult.iteS {c : Bool} {f g : ι → Option R} {r r' : R} (h : c = true → Ult l f r) (k : c = false → Ult l g r') : Ult l (fun i => cnd c (f i) (g i)) (if c then r else r') := by
  cases c
  · exact Ult.no rfl (k rfl)
  · exact Ult.yes rfl (h rfl)
theorem Ult.ifS {c : Bool} {p : Prop} [Decidable p] (e : c = decide p) {f g : ι → Option R} {r r' : R} (h : p → Ult l f r) (k : ¬ p → Ult l g r') : Ult l (fun i => cnd c (f i) (g i)) (if p then r else r') := by
  subst e
  by_cases hp : p
  · rw [if_pos hp]; exact Ult.yes (decide_eq_true hp) (h hp)
  · rw [if_neg hp]; exact Ult.no (decide_eq_false hp) (k hp)

/-! ### operations -/
theorem seq_eq (a b : ByteArray) : seq a b = decide (a = b) := by
  unfold seq
  by_cases h : a = b
  · subst h; simp
  · rw [decide_eq_false h, beq_eq_false_iff_ne]
    intro e
    refine h ?_
    rw [ByteArray.toList_eq, ByteArray.toList_eq] at e
    obtain ⟨⟨x⟩⟩ := a
    obtain ⟨⟨y⟩⟩ := b
    simpa using e
theorem sne_eq (a b : ByteArray) : sne a b = decide (a ≠ b) := by
  have := seq_eq a b
  unfold seq at this
  unfold sne
  rw [this]
  by_cases h : a = b <;> simp [h]
theorem ieq_eq (a b : Int) : ieq a b = decide (a = b) := by
  unfold ieq
  by_cases h : a = b <;> simp [h]
theorem ine_eq (a b : Int) : ine a b = decide (a ≠ b) := by
  unfold ine
  by_cases h : a = b <;> simp [h]
theorem igt_eq (a b : Int) : igt a b = decide (b < a) := rfl
theorem ige_eq (a b : Int) : ige a b = decide (b ≤ a) := rfl
theorem ilt_eq (a b : Int) : ilt a b = decide (a < b) := rfl
theorem ile_eq (a b : Int) : ile a b = decide (a ≤ b) := rfl
theorem bnot_eq (a : Bool) : bnot a = !a := rfl
theorem iltL (j : Nat) (l : List α) : ilt (j : Int) (len l) = decide (j < l.length) := by
  unfold ilt len
  by_cases h : j < l.length
  · rw [decide_eq_true h, decide_eq_true (by omega)]
  · rw [decide_eq_false h, decide_eq_false (by omega)]
theorem igt0 (j : Nat) : igt (j : Int) 0 = decide (0 < j) := by
  unfold igt
  by_cases h : 0 < j
  · rw [decide_eq_true h, decide_eq_true (by omega)]
  · rw [decide_eq_false h, decide_eq_false (by omega)]
theorem isucc {j n : Nat} (h : j < n) (hn : n ≤ 9223372036854775807) : iadd .i64 (j : Int) 1 = ((j + 1 : Nat) : Int) := by rw [iadd64 (by omega) (by omega)]; rfl
theorem ipred {j n : Nat} (h0 : 0 < j) (h : j ≤ n) (hn : n ≤ 9223372036854775807) : isub .i64 (j : Int) 1 = ((j - 1 : Nat) : Int) := by rw [isub64 (by omega) (by omega)]; omega
theorem app?_ok {b : Nat} {l r : List α} (h : (l.length + r.length) * (max b 1) ≤ 140737488355328) : app? b l r = some (l ++ r) := by unfold app?; rw [if_pos h]
theorem cat?_ok {a b : ByteArray} (h : a.size + b.size ≤ 9223372036854775807) : cat? a b = some (a ++ b) := by unfold cat?; rw [if_pos h]
theorem cut?_take {l : List α} {j : Nat} (h : j ≤ l.length) : cut? l 0 (j : Int) = some (l.take j) := by
  unfold cut?
  rw [if_pos ⟨Int.le_refl _, by omega, by omega⟩]
  simp
theorem kbeq_pair (a b : ByteArray × ByteArray) : kbeq (.agg (.pair .str .str)) a b = decide (a = b) := by
  show (seq a.1 b.1 && seq a.2 b.2) = _
  rw [seq_eq, seq_eq]
  by_cases h1 : a.1 = b.1 <;> by_cases h2 : a.2 = b.2 <;> simp [h1, h2, Prod.ext_iff]
theorem drop_cons {l : List α} {j : Nat} (h : j < l.length) : l.drop j = l[j] :: l.drop (j + 1) := List.drop_eq_getElem_cons h

/-! ### strings in order -/
def lt (a b : ByteArray) : Prop := a.data.toList < b.data.toList
theorem slt_eq (a b : ByteArray) : slt a b = decide (a.data.toList < b.data.toList) := by
  unfold slt
  rw [ByteArray.toList_eq, ByteArray.toList_eq]
  exact bytesLess_eq _ _
theorem bytes_ext {a b : ByteArray} (h : a.data.toList = b.data.toList) : a = b := by
  obtain ⟨⟨x⟩⟩ := a
  obtain ⟨⟨y⟩⟩ := b
  simpa using h
theorem sle_eq (a b : ByteArray) : sle a b = decide (¬ b.data.toList < a.data.toList) := by
  have h : sle a b = (Op.bytesLess a.toList b.toList || a.toList == b.toList) := rfl
  rw [h, ByteArray.toList_eq, ByteArray.toList_eq, bytesLess_eq]
  by_cases h1 : a.data.toList < b.data.toList
  · simp [h1, List.lt_asymm h1]
  · by_cases h2 : a.data.toList = b.data.toList
    · rw [h2]; simp [List.lt_irrefl]
    · have h3 : b.data.toList < a.data.toList := by
        rcases List.le_total a.data.toList b.data.toList with q | q
        · rcases List.le_iff_lt_or_eq.1 q with q | q
          · exact absurd q h1
          · exact absurd q h2
        · rcases List.le_iff_lt_or_eq.1 q with q | q
          · exact q
          · exact absurd q.symm h2
      have h4 : ¬ a.data = b.data := fun e => h2 (by rw [e])
      simp [h1, h4, h3]
end Go.Proofs.YtocgdpnealaoeaaDoor.Ev

namespace Go.Proofs.YtocgdpnealaoeaaDoor.Ev
open Go Go.RowKit
set_option linter.unusedVariables false
set_option linter.unusedSimpArgs false
theorem bt_get {s : ByteArray} {j : Nat} (h : j < s.size) : bt s (j : Int) = ((s.data.toList[j]'(by simpa using h)).toNat : Int) := by
  unfold bt
  rw [dif_pos (by simpa using h)]
  simp [ByteArray.getElem_eq_getElem_data]
theorem bt?_get {s : ByteArray} {j : Nat} (h : j < s.size) : bt? s (j : Int) = some (bt s (j : Int)) := by unfold bt?; rw [if_pos ⟨Int.natCast_nonneg _, by omega⟩]
theorem toList_len (s : ByteArray) : s.data.toList.length = s.size := by simp
theorem iltS (j : Nat) (s : ByteArray) : ilt (j : Int) (ssz s) = decide (j < s.size) := by
  unfold ilt ssz
  by_cases h : j < s.size
  · rw [decide_eq_true h, decide_eq_true (by omega)]
  · rw [decide_eq_false h, decide_eq_false (by omega)]
/-- a byte of a word -/
def wc (c : Int) : Bool := decide (97 ≤ c ∧ c ≤ 122) || decide (48 ≤ c ∧ c ≤ 57) || decide (c = 45) || decide (c = 95)
def allW (l : List UInt8) : Bool := l.all fun b => wc (b.toNat : Int)
def isWord (s : ByteArray) : Bool := decide (1 ≤ s.size ∧ s.size ≤ 40) && (decide (97 ≤ bt s 0 ∧ bt s 0 ≤ 122) && allW s.data.toList)
theorem isWord_size {s : ByteArray} (h : isWord s = true) : 1 ≤ s.size ∧ s.size ≤ 40 := by
  simp only [isWord, Bool.and_eq_true, decide_eq_true_eq] at h
  exact h.1
theorem isWord_all {s : ByteArray} (h : isWord s = true) : allW s.data.toList = true := by
  simp only [isWord, Bool.and_eq_true, decide_eq_true_eq] at h
  exact h.2.2
def wset : List UInt8 := [97, 98, 99, 100, 101, 102, 103, 104, 105, 106, 107, 108, 109, 110, 111, 112, 113, 114, 115, 116, 117, 118, 119, 120, 121, 122, 48, 49, 50, 51, 52, 53, 54, 55, 56, 57, 95, 45]
theorem wset_mem (b : UInt8) : wset.contains b = wc (b.toNat : Int) := by
  have key : ∀ n : _root_.Fin 256, wset.contains (UInt8.ofNat n.1) = wc ((UInt8.ofNat n.1).toNat : Int) := by decide +kernel
  have := key ⟨b.toNat, b.toNat_lt⟩
  simpa using this
theorem dropWhile_nil {α : Type} {p : α → Bool} : ∀ {l : List α}, l.dropWhile p = [] ↔ ∀ x ∈ l, p x = true
  | [] => by simp
  | a :: l => by
    cases h : p a with
    | true => simp [List.dropWhile, h, dropWhile_nil (l := l)]
    | false => simp [List.dropWhile, h]
theorem trimS_nil (l cs : List UInt8) : (Lib.trimS l cs = []) ↔ ∀ b ∈ l, cs.contains b = true := by
  unfold Lib.trimS Lib.trimLeftS Lib.trimRightS
  constructor
  · intro h
    rw [dropWhile_nil] at h
    have h2 : l.reverse.dropWhile (cs.contains ·) = [] := by
      cases hd : l.reverse.dropWhile (cs.contains ·) with
      | nil => rfl
      | cons a r =>
        have h3 := h a (by rw [hd]; simp)
        have h4 : ((l.reverse.dropWhile (cs.contains ·)).head?).all (fun x => !(cs.contains x)) = true := by
          have := List.head?_dropWhile_not (cs.contains ·) l.reverse
          rw [hd] at this ⊢
          simpa using this
        rw [hd] at h4
        simp only [List.head?_cons, Option.all_some, Bool.not_eq_true'] at h4
        rw [h4] at h3; cases h3
    rw [dropWhile_nil] at h2
    intro b hb
    exact h2 b (by simpa using hb)
  · intro h
    have h2 : l.reverse.dropWhile (cs.contains ·) = [] := by
      rw [dropWhile_nil]
      intro b hb
      exact h b (by simpa using hb)
    rw [h2]; rfl
theorem all_contains (l : List UInt8) : (∀ b ∈ l, wset.contains b = true) ↔ allW l = true := by
  unfold allW
  rw [List.all_eq_true]
  exact ⟨fun h b hb => by rw [← wset_mem]; exact h b hb, fun h b hb => by rw [wset_mem]; exact h b hb⟩
/-- config.IsWord -/
theorem S48_spec (s : ByteArray) (hs : s.size ≤ 9223372036854775807) : Ultk (fun k => S48 k (s, ())) (isWord s) := by
  unfold S48 isWord
  refine Ult.jn ?_
  dsimp only
  by_cases h1 : s.size < 1
  · refine Ult.yes (by simp only [ilt_eq, ssz, decide_eq_true_eq]; omega) (Ult.yes rfl (Ult.ret.eq ?_))
    rw [decide_eq_false (by omega)]; rfl
  refine Ult.no (by simp only [ilt_eq, ssz, decide_eq_false_iff_not]; omega) ?_
  by_cases h2 : 40 < s.size
  · refine Ult.yes (by simp only [igt_eq, ssz, decide_eq_true_eq]; omega) (Ult.yes rfl (Ult.ret.eq ?_))
    rw [decide_eq_false (by omega)]; rfl
  refine Ult.no (by simp only [igt_eq, ssz, decide_eq_false_iff_not]; omega) ?_
  have h0 : bt? s 0 = some (bt s 0) := bt?_get (j := 0) (by omega)
  rw [decide_eq_true (show 1 ≤ s.size ∧ s.size ≤ 40 by omega), Bool.true_and]
  refine Ult.bindc h0 ?_
  by_cases h3 : bt s 0 < 97
  · refine Ult.yes (decide_eq_true h3) (Ult.yes rfl (Ult.ret.eq ?_))
    rw [decide_eq_false (by omega)]; rfl
  refine Ult.no (decide_eq_false h3) (Ult.bindc h0 ?_)
  by_cases h4 : 122 < bt s 0
  · refine Ult.yes (decide_eq_true h4) (Ult.ret.eq ?_)
    rw [decide_eq_false (by omega)]; rfl
  refine Ult.no (decide_eq_false h4) ?_
  rw [decide_eq_true (show 97 ≤ bt s 0 ∧ bt s 0 ≤ 122 by omega), Bool.true_and]
  have hc : (⟨#[97, 98, 99, 100, 101, 102, 103, 104, 105, 106, 107, 108, 109, 110, 111, 112, 113, 114, 115, 116, 117, 118, 119, 120, 121, 122, 48, 49, 50, 51, 52, 53, 54, 55, 56, 57, 95, 45]⟩ : ByteArray).data.toList = wset := rfl
  have ht : ∀ k, S70 k (s, (⟨#[97, 98, 99, 100, 101, 102, 103, 104, 105, 106, 107, 108, 109, 110, 111, 112, 113, 114, 115, 116, 117, 118, 119, 120, 121, 122, 48, 49, 50, 51, 52, 53, 54, 55, 56, 57, 95, 45]⟩ : ByteArray), ()) = some ⟨(Lib.trimS s.data.toList wset).toArray⟩ := fun k => by
    show trimF s (⟨#[97, 98, 99, 100, 101, 102, 103, 104, 105, 106, 107, 108, 109, 110, 111, 112, 113, 114, 115, 116, 117, 118, 119, 120, 121, 122, 48, 49, 50, 51, 52, 53, 54, 55, 56, 57, 95, 45]⟩ : ByteArray) = _
    unfold trimF
    rw [if_pos ⟨hs, by decide, by decide⟩, hc]
  refine Ult.bind ⟨0, fun k _ => ht k⟩ (Ult.ret.eq ?_)
  rw [seq_eq]
  by_cases h5 : allW s.data.toList = true
  · rw [h5]
    refine decide_eq_true ?_
    rw [(trimS_nil _ _).2 ((all_contains _).2 h5)]
  · rw [Bool.not_eq_true] at h5
    rw [h5]
    refine decide_eq_false fun e => ?_
    have : Lib.trimS s.data.toList wset = [] := by
      have := congrArg (fun b : ByteArray => b.data.toList) e
      simpa using this
    rw [trimS_nil, all_contains, h5] at this
    cases this
theorem wc_tree {R : Type} (c : Int) (J : Bool → Option R) : cnd (ilt c 97) (cnd (ilt c 48) (cnd (ine c 45) (J (ine c 95)) (J false)) (cnd (igt c 57) (cnd (ine c 45) (J (ine c 95)) (J false)) (J false))) (cnd (igt c 122) (cnd (ilt c 48) (cnd (ine c 45) (J (ine c 95)) (J false)) (cnd (igt c 57) (cnd (ine c 45) (J (ine c 95)) (J false)) (J false))) (J false)) = J (!wc c) := by
  rcases (by omega : c = 95 ∨ c = 45 ∨ (c < 48 ∧ c ≠ 45) ∨ (48 ≤ c ∧ c ≤ 57) ∨ (58 ≤ c ∧ c < 97 ∧ c ≠ 95) ∨ (97 ≤ c ∧ c ≤ 122) ∨ 122 < c) with h | h | h | h | h | h | h <;>
    simp (disch := omega) only [ilt_eq, igt_eq, ine_eq, wc, cnd, decide_eq_true, decide_eq_false, cond_true, cond_false, Bool.or_true, Bool.or_false, Bool.not_true, Bool.not_false, Bool.true_or, Bool.false_or]
end Go.Proofs.YtocgdpnealaoeaaDoor.Ev

namespace Go.Proofs.YtocgdpnealaoeaaDoor.Ev
open Go Go.RowKit
set_option linter.unusedVariables false
set_option linter.unusedSimpArgs false
variable {ι : Type} {l : ι → Nat} {α : Type}
abbrev Setting : Type := ByteArray × List ByteArray
abbrev Pair : Type := ByteArray × ByteArray

/-! ### searches -/
/-- the place of the first that is wanted, or -1 -/
def idxF (p : α → Bool) : Nat → List α → Int
  | _, [] => -1
  | j, a :: r => if p a = true then (j : Int) else idxF p (j + 1) r
theorem idxF_cases (p : α → Bool) : ∀ (j : Nat) (L : List α), (idxF p j L = -1 ∧ L.find? p = none) ∨ ∃ (i : Nat) (h : i < L.length), idxF p j L = ((j + i : Nat) : Int) ∧ L.find? p = some L[i] ∧ p L[i] = true
  | j, [] => .inl ⟨rfl, rfl⟩
  | j, a :: r => by
    cases h : p a with
    | true => exact .inr ⟨0, by simp, by simp [idxF, h], by simp [h], by simpa using h⟩
    | false =>
      rcases idxF_cases p (j + 1) r with ⟨h1, h2⟩ | ⟨i, hi, h1, h2, h3⟩
      · exact .inl ⟨by simp [idxF, h, h1], by simp [h, h2]⟩
      · exact .inr ⟨i + 1, by simpa using hi, by simp only [idxF, h, Bool.false_eq_true, if_false, h1]; congr 1; omega, by simp [h, h2], by simpa using h3⟩
theorem idxF_neg {p : α → Bool} {L : List α} : idxF p 0 L < 0 ↔ L.find? p = none := by
  rcases idxF_cases p 0 L with ⟨h1, h2⟩ | ⟨i, hi, h1, h2, h3⟩
  · simp [h1, h2]
  · rw [h1, h2]
    constructor
    · intro h; omega
    · intro h; cases h
theorem idxF_at {p : α → Bool} {L : List α} {a : α} (h : L.find? p = some a) : at? L (idxF p 0 L) = some a ∧ 0 ≤ idxF p 0 L := by
  rcases idxF_cases p 0 L with ⟨h1, h2⟩ | ⟨i, hi, h1, h2, h3⟩
  · rw [h2] at h; cases h
  · rw [h1, Nat.zero_add, at?_nat hi, ← h2, h]
    exact ⟨rfl, Int.natCast_nonneg _⟩
theorem len_big {b : Nat} {L : List α} (h : L.length * b ≤ 140737488351232) (hb : 0 < b) : L.length ≤ 140737488351232 := by
  have : L.length * 1 ≤ L.length * b := Nat.mul_le_mul_left _ hb
  omega
theorem S104_spec (L : List ByteArray) (x : ByteArray) (hL : L.length ≤ 9223372036854775807) : Ultk (fun k => S104 k (L, x, ())) (idxF (fun a => decide (x = a)) 0 L) := by
  unfold S104
  refine (Ult.forI (fun _ => Nat.le_refl _) L.length (fun j => idxF (fun a => decide (x = a)) j (L.drop j)) fun j hj next => ?_).eq (by rw [List.drop_zero])
  dsimp only
  rw [iltL]
  by_cases hlt' : ¬ j < L.length
  · refine Ult.no (decide_eq_false hlt') (Ult.ret.eq ?_)
    rw [List.drop_eq_nil_of_le (by omega)]; rfl
  have hlt : j < L.length := Decidable.not_not.1 hlt'
  refine Ult.yes (decide_eq_true hlt) (Ult.bindc (at?_nat hlt) ?_)
  rw [drop_cons hlt, idxF, isucc hlt hL]
  exact Ult.ifS (by rw [seq_eq]; simp) (fun h => Ult.ret) (fun h => next hlt)
theorem any_mem (L : List ByteArray) (x : ByteArray) : (L.find? (fun a => decide (x = a)) = none) ↔ x ∉ L := by
  rw [List.find?_eq_none]
  constructor
  · intro h hx; exact h x hx (by simp)
  · intro h a ha e
    have e := of_decide_eq_true e
    exact h (e ▸ ha)
def memB (L : List ByteArray) (x : ByteArray) : Bool := L.any fun a => decide (x = a)
theorem memB_iff {L : List ByteArray} {x : ByteArray} : memB L x = true ↔ x ∈ L := by
  unfold memB
  rw [List.any_eq_true]
  exact ⟨fun ⟨a, ha, e⟩ => of_decide_eq_true e ▸ ha, fun h => ⟨x, h, decide_eq_true rfl⟩⟩
theorem S90_spec (L : List ByteArray) (x : ByteArray) (hL : L.length ≤ 9223372036854775807) : Ultk (fun k => S90 k (L, x, ())) (memB L x) := by
  unfold S90
  refine Ult.bind (S104_spec L x hL) (Ult.ret.eq ?_)
  rw [ige_eq]
  by_cases h : x ∈ L
  · rw [memB_iff.2 h]
    refine decide_eq_true ?_
    rcases Int.lt_or_le (idxF (fun a => decide (x = a)) 0 L) 0 with q | q
    · exact absurd h ((any_mem _ _).1 (idxF_neg.1 q))
    · exact q
  · have h' : memB L x = false := by
      cases hb : memB L x with
      | false => rfl
      | true => exact absurd (memB_iff.1 hb) h
    rw [h']
    have := idxF_neg.2 ((any_mem L x).2 h)
    exact decide_eq_false (by omega)
/-- slices.IndexFunc at settings -/
theorem S105_spec {kk : ι → Nat} (hk : ∀ i, l i ≤ kk i) (L : List Setting) (f : ι → Setting → Option Bool) (p : Setting → Bool) (hf : ∀ a, Ult l (fun i => f i a) (p a)) (hL : L.length ≤ 9223372036854775807) :
    Ult l (fun i => S105 (kk i) (L, f i, ())) (idxF p 0 L) := by
  unfold S105
  refine (Ult.forI hk L.length (fun j => idxF p j (L.drop j)) fun j hj next => ?_).eq (by rw [List.drop_zero])
  dsimp only
  rw [iltL]
  by_cases hlt' : ¬ j < L.length
  · refine Ult.no (decide_eq_false hlt') (Ult.ret.eq ?_)
    rw [List.drop_eq_nil_of_le (by omega)]; rfl
  have hlt : j < L.length := Decidable.not_not.1 hlt'
  refine Ult.yes (decide_eq_true hlt) (Ult.bindc (at?_nat hlt) (Ult.bind (hf _).lift ?_))
  rw [drop_cons hlt, idxF, isucc hlt hL]
  exact Ult.ifS (by simp) (fun h => Ult.ret) (fun h => next hlt)
/-- the first setting of a name -/
def look (L : List (ByteArray × α)) (n : ByteArray) : Option (ByteArray × α) := L.find? fun s => decide (s.1 = n)
theorem look_name {L : List (ByteArray × α)} {n : ByteArray} {s : ByteArray × α} (h : look L n = some s) : s ∈ L ∧ s.1 = n := by
  unfold look at h
  exact ⟨List.mem_of_find?_eq_some h, of_decide_eq_true (List.find?_some (p := fun s : ByteArray × α => decide (s.1 = n)) h)⟩
def idxN (L : List (ByteArray × α)) (n : ByteArray) : Int := idxF (fun s => decide (s.1 = n)) 0 L
theorem S91_spec (L : List Setting) (n : ByteArray) (hL : L.length ≤ 9223372036854775807) : Ultk (fun k => S91 k (L, n, ())) (idxN L n) := by
  unfold S91
  have h := S105_spec (l := fun k => k) (fun _ => Nat.le_refl _) L (fun k a => S106 k (a, n, ())) (fun s => decide (s.1 = n)) (fun a => Ult.ret.eq (seq_eq _ _)) hL
  exact Ult.bind h Ult.ret
def lookS (L : List Setting) (n : ByteArray) : Setting × Bool := match look L n with
  | some s => (s, true)
  | none => ((⟨#[]⟩, []), false)
def lookV (L : List Pair) (n : ByteArray) : ByteArray × Bool := match look L n with
  | some s => (s.2, true)
  | none => (⟨#[]⟩, false)
/-- not above the one before -/
def notAbove (prev : Option ByteArray) (n : ByteArray) : Bool := match prev with
  | none => false
  | some m => sle n m
def chkVals : List ByteArray → List ByteArray → Int
  | _, [] => 0
  | seen, v :: r => if isWord v = false then 5 else if memB seen v = true then 7 else chkVals (seen ++ [v]) r
def chkSets : Option ByteArray → List Setting → Int
  | _, [] => 0
  | prev, s :: r => if isWord s.1 = false then 5 else if s.2 = [] then 9 else if 20 < s.2.length then 2 else if chkVals [] s.2 ≠ 0 then chkVals [] s.2 else if notAbove prev s.1 = true then 8 else chkSets (some s.1) r
def chkSettings (L : List Setting) : Int := if 30 < L.length then 2 else chkSets none L
def prevOf (L : List (ByteArray × α)) (j : Nat) : Option ByteArray := if h : 0 < j ∧ j - 1 < L.length then some (L[j - 1]'h.2).1 else none
theorem prevOf_zero (L : List (ByteArray × α)) : prevOf L 0 = none := rfl
theorem prevOf_succ {L : List (ByteArray × α)} {j : Nat} (h : j < L.length) : prevOf L (j + 1) = some L[j].1 := by unfold prevOf; rw [dif_pos ⟨Nat.succ_pos _, by simpa using h⟩]; simp
/-- sizes of settings as they come -/
def SetSz (L : List Setting) : Prop := L.length * 40 ≤ 140737488351232 ∧ ∀ s ∈ L, s.1.size ≤ 140737488351232 ∧ s.2.length * 16 ≤ 140737488351232 ∧ ∀ v ∈ s.2, v.size ≤ 140737488351232
theorem SetSz.len {L : List Setting} (h : SetSz L) : L.length ≤ 140737488351232 := len_big h.1 (by omega)
def PairSz (L : List Pair) : Prop := L.length * 32 ≤ 140737488351232 ∧ ∀ s ∈ L, s.1.size ≤ 140737488351232 ∧ s.2.size ≤ 140737488351232
theorem PairSz.len {L : List Pair} (h : PairSz L) : L.length ≤ 140737488351232 := len_big h.1 (by omega)

end Go.Proofs.YtocgdpnealaoeaaDoor.Ev

namespace Go.Proofs.YtocgdpnealaoeaaDoor.Ev
open Go Go.RowKit
set_option linter.unusedVariables false
set_option linter.unusedSimpArgs false
theorem dec_true (b : Bool) : b = decide (b = true) := by cases b <;> rfl
theorem chkVals_step {L : List ByteArray} {j : Nat} (h : j < L.length) : chkVals (L.take j) (L.drop j) = if isWord L[j] = false then 5 else if memB (L.take j) L[j] = true then 7 else chkVals (L.take (j + 1)) (L.drop (j + 1)) := by
  rw [drop_cons h, chkVals, List.take_succ_eq_append_getElem h]
theorem chkSets_step {L : List Setting} {j : Nat} (h : j < L.length) : chkSets (prevOf L j) (L.drop j) = if isWord L[j].1 = false then 5 else if L[j].2 = [] then 9 else if 20 < L[j].2.length then 2 else if chkVals [] L[j].2 ≠ 0 then chkVals [] L[j].2 else if notAbove (prevOf L j) L[j].1 = true then 8 else chkSets (prevOf L (j + 1)) (L.drop (j + 1)) := by
  rw [drop_cons h, chkSets, prevOf_succ h]
/-- config.CheckSettings -/
theorem S73_spec (L : List Setting) (hL : SetSz L) : Ultk (fun k => S73 k (L, ())) (chkSettings L) := by
  unfold S73 chkSettings
  refine Ult.ifS (by rw [igt_eq]; unfold len; simp only [decide_eq_decide]; omega) (fun _ => Ult.ret) fun h30 => ?_
  have hlen := hL.len
  refine (Ult.forI (fun _ => Nat.le_refl _) L.length (fun j => chkSets (prevOf L j) (L.drop j)) fun j hj next => ?_).eq (by rw [List.drop_zero, prevOf_zero])
  dsimp only
  rw [iltL]
  by_cases hlt' : ¬ j < L.length
  · refine Ult.no (decide_eq_false hlt') (Ult.ret.eq ?_)
    rw [List.drop_eq_nil_of_le (by omega)]
    cases prevOf L j <;> rfl
  have hlt : j < L.length := Decidable.not_not.1 hlt'
  refine Ult.yes (decide_eq_true hlt) (Ult.bindc (at?_nat hlt) ?_)
  rw [chkSets_step hlt, isucc hlt (by omega)]
  obtain ⟨hs1, hs2, hs3⟩ := hL.2 _ (List.getElem_mem hlt)
  have hs2' := len_big hs2 (by omega)
  have next' := next hlt
  clear next
  generalize chkSets (prevOf L (j + 1)) (L.drop (j + 1)) = rest at next' ⊢
  have hw := S48_spec L[j].1 (by omega)
  refine Ult.bind (Ult.call (f := fun k => S48 k (L[j].1, ())) (lp_le _ _ fun _ => Nat.le_refl _) hw) ?_
  refine Ult.ifS (by rw [bnot_eq]; cases isWord L[j].1 <;> rfl) (fun _ => Ult.ret) fun _ => ?_
  refine Ult.ifS (by rw [ieq_eq]; unfold len; simp only [decide_eq_decide]; rw [← List.length_eq_zero_iff]; omega) (fun _ => Ult.ret) fun _ => ?_
  refine Ult.ifS (by rw [igt_eq]; unfold len; simp only [decide_eq_decide]; omega) (fun _ => Ult.ret) fun _ => ?_
  refine (Ult.forI (lp_le _ _ fun _ => Nat.le_refl _) L[j].2.length (fun i => if chkVals (L[j].2.take i) (L[j].2.drop i) ≠ 0 then chkVals (L[j].2.take i) (L[j].2.drop i) else if notAbove (prevOf L j) L[j].1 = true then 8 else rest) fun i hi nexti => ?_).eq (by rw [List.drop_zero, List.take_zero])
  try dsimp only
  rw [iltL]
  by_cases hit' : ¬ i < L[j].2.length
  · refine Ult.no (decide_eq_false hit') ?_
    rw [List.drop_eq_nil_of_le (by omega), chkVals, if_neg (by simp)]
    have nx := next'.lift
    rw [igt0]
    by_cases h0 : 0 < j
    · refine Ult.yes (decide_eq_true h0) ?_
      rw [ipred (n := L.length) h0 (by omega) (by omega)]
      refine Ult.bindc (at?_nat (show j - 1 < L.length by omega)) ?_
      have hp : prevOf L j = some L[j - 1].1 := by unfold prevOf; rw [dif_pos ⟨h0, by omega⟩]
      rw [hp]
      exact Ult.ifS (dec_true _) (fun _ => Ult.ret) fun _ => nx
    · refine Ult.no (decide_eq_false h0) ?_
      have : j = 0 := by omega
      subst this
      rw [prevOf_zero, if_neg (by simp [notAbove])]
      exact nx
  have hit : i < L[j].2.length := Decidable.not_not.1 hit'
  refine Ult.yes (decide_eq_true hit) (Ult.bindc (at?_nat hit) ?_)
  rw [isucc hit (by omega)]
  have hwv := S48_spec L[j].2[i] (by have := hs3 _ (List.getElem_mem hit); omega)
  refine Ult.bind (Ult.call (f := fun k => S48 k (L[j].2[i], ())) (lp_le _ _ (lp_le _ _ fun _ => Nat.le_refl _)) hwv) ?_
  have nexti' := nexti hit
  clear nexti
  rw [chkVals_step hit]
  by_cases h1 : isWord L[j].2[i] = false
  · rw [h1]
    exact Ult.yes rfl (Ult.ret.eq (by simp))
  rw [if_neg h1]
  rw [Bool.not_eq_false] at h1
  rw [h1]
  refine Ult.no rfl (Ult.bindc (cut?_take (by omega)) ?_)
  have hm := S90_spec (L[j].2.take i) L[j].2[i] (by rw [List.length_take]; omega)
  refine Ult.bind (Ult.call (f := fun k => S90 k (L[j].2.take i, L[j].2[i], ())) (lp_le _ _ (lp_le _ _ fun _ => Nat.le_refl _)) hm) ?_
  cases h2 : memB (L[j].2.take i) L[j].2[i]
  · exact Ult.no rfl (nexti'.eq (by simp))
  · exact Ult.yes rfl (Ult.ret.eq (by simp))
end Go.Proofs.YtocgdpnealaoeaaDoor.Ev

namespace Go.Proofs.YtocgdpnealaoeaaDoor.Ev
open Go Go.RowKit
set_option linter.unusedVariables false
set_option linter.unusedSimpArgs false
def chkSet (L : List Setting) (plain : Bool) : Option ByteArray → List Pair → Int
  | _, [] => 0
  | prev, p :: r => match look L p.1 with
    | none => 5
    | some s => if memB s.2 p.2 = false then 1 else if plain = true ∧ s.2.head? = some p.2 then 3 else if notAbove prev p.1 = true then 8 else chkSet L plain (some p.1) r
theorem chkSet_none {L : List Setting} {b : Bool} {C : List Pair} {j : Nat} (h : j < C.length) (hl : look L C[j].1 = none) : chkSet L b (prevOf C j) (C.drop j) = 5 := by
  rw [drop_cons h, chkSet, hl]
theorem chkSet_some {L : List Setting} {b : Bool} {C : List Pair} {j : Nat} (h : j < C.length) {s : Setting} (hl : look L C[j].1 = some s) : chkSet L b (prevOf C j) (C.drop j) =
    if memB s.2 C[j].2 = false then 1 else if b = true ∧ s.2.head? = some C[j].2 then 3 else if notAbove (prevOf C j) C[j].1 = true then 8 else chkSet L b (prevOf C (j + 1)) (C.drop (j + 1)) := by
  rw [drop_cons h, chkSet, hl, prevOf_succ h]
theorem not_false_eq (b : Bool) : bnot b = decide (b = false) := by cases b <;> rfl
theorem head_of_mem {l : List ByteArray} {x : ByteArray} (h : memB l x = true) : ∃ v r, l = v :: r := by
  cases l with
  | nil => cases memB_iff.1 h
  | cons v r => exact ⟨v, r, rfl⟩
/-- the order of names, and what comes then -/
theorem order_step {ι : Type} {l : ι → Nat} {C : List Pair} {j : Nat} (hlt : j < C.length) (hC : C.length ≤ 9223372036854775807) {rest : Int} {f : ι → Option Int} (nx : Ult l f rest) :
    Ult l (fun i => cnd (igt (j : Int) 0) (bnd (at? C (isub .i64 (j : Int) 1)) fun a => cnd (sle C[j].1 a.1) (some 8) (f i)) (f i)) (if notAbove (prevOf C j) C[j].1 = true then 8 else rest) := by
  rw [igt0]
  by_cases h0 : 0 < j
  · refine Ult.yes (decide_eq_true h0) ?_
    rw [ipred (n := C.length) h0 (by omega) (by omega)]
    refine Ult.bindc (at?_nat (show j - 1 < C.length by omega)) ?_
    have hp : prevOf C j = some C[j - 1].1 := by unfold prevOf; rw [dif_pos ⟨h0, by omega⟩]
    rw [hp]
    exact Ult.ifS (dec_true _) (fun _ => Ult.ret) fun _ => nx
  · refine Ult.no (decide_eq_false h0) ?_
    have : j = 0 := by omega
    subst this
    rw [prevOf_zero, if_neg (by simp [notAbove])]
    exact nx
theorem S74_spec (L : List Setting) (C : List Pair) (b : Bool) (hL : SetSz L) (hC : C.length ≤ 140737488355328) : Ultk (fun k => S74 k (L, C, b, ())) (chkSet L b none C) := by
  unfold S74
  have hlen := hL.len
  refine (Ult.forI (fun _ => Nat.le_refl _) C.length (fun j => chkSet L b (prevOf C j) (C.drop j)) fun j hj next => ?_).eq (by rw [List.drop_zero, prevOf_zero])
  dsimp only
  rw [iltL]
  by_cases hlt' : ¬ j < C.length
  · refine Ult.no (decide_eq_false hlt') (Ult.ret.eq ?_)
    rw [List.drop_eq_nil_of_le (by omega)]
    cases prevOf C j <;> rfl
  have hlt : j < C.length := Decidable.not_not.1 hlt'
  refine Ult.yes (decide_eq_true hlt) (Ult.bindc (at?_nat hlt) ?_)
  rw [isucc hlt (by omega)]
  have next' := next hlt
  clear next
  refine Ult.bind (Ult.call (f := fun k => S91 k (L, C[j].1, ())) (lp_le _ _ fun _ => Nat.le_refl _) (S91_spec L C[j].1 (by omega))) ?_
  cases hl : look L C[j].1 with
  | none =>
    rw [chkSet_none hlt hl]
    exact Ult.yes (by rw [ilt_eq]; exact decide_eq_true (idxF_neg.2 hl)) Ult.ret
  | some s =>
    rw [chkSet_some hlt hl]
    obtain ⟨i1, i2⟩ := idxF_at (p := fun s : Setting => decide (s.1 = C[j].1)) hl
    have i1 : at? L (idxN L C[j].1) = some s := i1
    have i2 : 0 ≤ idxN L C[j].1 := i2
    refine Ult.no (by rw [ilt_eq]; exact decide_eq_false (by omega)) (Ult.bindc i1 ?_)
    obtain ⟨m1, m2⟩ := look_name hl
    obtain ⟨hs1, hs2, hs3⟩ := hL.2 s m1
    have hs2' := len_big hs2 (by omega)
    refine Ult.bind (Ult.call (f := fun k => S90 k (s.2, C[j].2, ())) (lp_le _ _ fun _ => Nat.le_refl _) (S90_spec s.2 C[j].2 (by omega))) ?_
    refine Ult.ifS (not_false_eq _) (fun _ => Ult.ret) fun hm => ?_
    rw [Bool.not_eq_false] at hm
    obtain ⟨v0, r0, e0⟩ := head_of_mem hm
    refine Ult.jn ?_
    refine Ult.ite (fun hb => ?_) (fun hb => ?_)
    · refine Ult.bindc i1 (Ult.bindc (show at? s.2 0 = some v0 by rw [e0]; rfl) (Ult.ifS ?_ (fun _ => Ult.ret) fun _ => order_step hlt (by omega) next'))
      rw [seq_eq, e0]
      have hb : b = true := hb
      simp only [decide_eq_decide, hb, true_and, List.head?_cons, Option.some.injEq]
      exact eq_comm
    · exact Ult.ifS (by have hb : b = false := hb; rw [hb]; simp) (fun _ => Ult.ret) fun _ => order_step hlt (by omega) next'
/-- config.CheckConfig -/
def chkConfig (L : List Setting) (C : List Pair) : Int := if chkSettings L ≠ 0 then chkSettings L else chkSet L true none C
theorem S57_spec (L : List Setting) (C : List Pair) (hL : SetSz L) (hC : C.length ≤ 140737488355328) : Ultk (fun k => S57 k (L, C, ())) (chkConfig L C) := by
  unfold S57 chkConfig
  refine Ult.bind (S73_spec L hL) (Ult.ifS (ine_eq _ _) (fun _ => Ult.ret) fun _ => Ult.bind (S74_spec L C true hL hC) Ult.ret)
theorem chkSets_ne {L : List Setting} : ∀ {prev : Option ByteArray}, chkSets prev L = 0 → ∀ s ∈ L, s.2 ≠ [] ∧ isWord s.1 = true ∧ chkVals [] s.2 = 0 := by
  induction L with
  | nil => intro prev _ s hs; cases hs
  | cons t L ih =>
    intro prev h s hs
    rw [chkSets] at h
    split at h
    · cases h
    · rename_i h1
      split at h
      · cases h
      · rename_i h2
        split at h
        · cases h
        · split at h
          · rename_i h4; exact absurd h h4
          · rename_i h4
            split at h
            · cases h
            · rcases List.mem_cons.1 hs with rfl | hs
              · exact ⟨h2, by simpa using h1, by simpa using h4⟩
              · exact ih h s hs
theorem chkSettings_ne {L : List Setting} (h : chkSettings L = 0) : L.length ≤ 30 ∧ ∀ s ∈ L, s.2 ≠ [] ∧ isWord s.1 = true ∧ chkVals [] s.2 = 0 := by
  unfold chkSettings at h
  split at h
  · cases h
  · exact ⟨by omega, chkSets_ne h⟩
theorem chkConfig_ok {L : List Setting} {C : List Pair} (h : chkConfig L C = 0) : chkSettings L = 0 ∧ chkSet L true none C = 0 := by
  unfold chkConfig at h
  split at h
  · rename_i q; exact absurd h q
  · rename_i q; exact ⟨Decidable.not_not.1 q, h⟩
/-- the value of a setting that there is -/
def valOf (L : List Setting) (C : List Pair) (n : ByteArray) : Option ByteArray := match look C n with
  | some p => some p.2
  | none => (look L n).bind fun s => s.2.head?
theorem valOf_some {L : List Setting} {C : List Pair} {n : ByteArray} (hL : chkSettings L = 0) {s : Setting} (hl : look L n = some s) : ∃ v, valOf L C n = some v := by
  unfold valOf
  cases look C n with
  | some p => exact ⟨_, rfl⟩
  | none =>
    rw [hl]
    have := ((chkSettings_ne hL).2 s (look_name hl).1).1
    cases hs : s.2 with
    | nil => exact absurd hs this
    | cons a r => exact ⟨a, by simp [hs]⟩
/-- config.ValueOf -/
def valueOf (L : List Setting) (C : List Pair) (n : ByteArray) : ByteArray × Int := if chkConfig L C ≠ 0 then (⟨#[]⟩, chkConfig L C) else if look L n = none then (⟨#[]⟩, 5) else ((valOf L C n).getD ⟨#[]⟩, 0)
end Go.Proofs.YtocgdpnealaoeaaDoor.Ev

namespace Go.Proofs.YtocgdpnealaoeaaDoor.Ev
open Go Go.RowKit
set_option linter.unusedVariables false
set_option linter.unusedSimpArgs false
theorem S6_spec (L : List ByteArray) (h : L.length * 16 ≤ 140737488355328) : Ultk (fun k => S6 k (L, ())) L := ⟨0, fun k _ => if_pos h⟩
theorem chkVals_ok {L : List ByteArray} : ∀ {seen : List ByteArray}, chkVals seen L = 0 → (∀ v ∈ L, isWord v = true ∧ v ∉ seen) ∧ L.Nodup := by
  induction L with
  | nil => intro seen _; exact ⟨fun v h => (by cases h), List.nodup_nil⟩
  | cons a L ih =>
    intro seen h
    rw [chkVals] at h
    split at h
    · cases h
    · rename_i h1
      split at h
      · cases h
      · rename_i h2
        obtain ⟨i1, i2⟩ := ih h
        refine ⟨fun v hv => ?_, List.nodup_cons.2 ⟨fun hm => (i1 a hm).2 (by simp), i2⟩⟩
        rcases List.mem_cons.1 hv with rfl | hv
        · exact ⟨by simpa using h1, fun hm => h2 (memB_iff.2 hm)⟩
        · exact ⟨(i1 v hv).1, fun hm => (i1 v hv).2 (by simp [hm])⟩
theorem notAbove_false {prev : Option ByteArray} {n : ByteArray} (h : ¬ notAbove prev n = true) : ∀ m, prev = some m → lt m n := by
  intro m hm
  subst hm
  have h : ¬ sle n m = true := h
  rw [sle_eq] at h
  unfold lt
  simpa using h
theorem lt_trans' {a b c : ByteArray} (h : lt a b) (h' : lt b c) : lt a c := List.lt_trans h h'
theorem lt_irr (a : ByteArray) : ¬ lt a a := List.lt_irrefl _
theorem chkSet_ok {L : List Setting} {b : Bool} : ∀ {C : List Pair} {prev : Option ByteArray}, chkSet L b prev C = 0 →
    (∀ p ∈ C, ∃ s, look L p.1 = some s ∧ p.2 ∈ s.2 ∧ (b = true → s.2.head? ≠ some p.2) ∧ ∀ m, prev = some m → lt m p.1) ∧ C.Pairwise (fun p q => lt p.1 q.1)
  | [], prev, _ => ⟨fun p h => (by cases h), List.Pairwise.nil⟩
  | p :: C, prev, h => by
    rw [chkSet] at h
    split at h
    · cases h
    · rename_i s hs
      split at h
      · cases h
      · rename_i h1
        split at h
        · cases h
        · rename_i h2
          split at h
          · cases h
          · rename_i h3
            obtain ⟨i1, i2⟩ := chkSet_ok h
            have hp := notAbove_false h3
            refine ⟨fun q hq => ?_, List.pairwise_cons.2 ⟨fun q hq => ?_, i2⟩⟩
            · rcases List.mem_cons.1 hq with rfl | hq
              · exact ⟨s, hs, memB_iff.1 (by simpa using h1), fun hb e => h2 ⟨hb, e⟩, hp⟩
              · obtain ⟨t, t1, t2, t3, t4⟩ := i1 q hq
                exact ⟨t, t1, t2, t3, fun m hm => lt_trans' (hp m hm) (t4 _ rfl)⟩
            · obtain ⟨t, t1, t2, t3, t4⟩ := i1 q hq
              exact t4 _ rfl
theorem pigeon {α : Type} : ∀ {A B : List α}, A.Nodup → (∀ a ∈ A, a ∈ B) → A.length ≤ B.length
  | [], _, _, _ => Nat.zero_le _
  | a :: A, B, hn, hs => by
    obtain ⟨s, t, rfl⟩ := List.append_of_mem (hs a (by simp))
    obtain ⟨h1, h2⟩ := List.nodup_cons.1 hn
    have := pigeon (B := s ++ t) h2 fun x hx => by
      have := hs x (by simp [hx])
      rcases List.mem_append.1 this with q | q
      · exact List.mem_append_left _ q
      · rcases List.mem_cons.1 q with rfl | q
        · exact absurd hx h1
        · exact List.mem_append_right _ q
    simp only [List.length_append, List.length_cons] at this ⊢
    omega
theorem cfg_len {L : List Setting} {b : Bool} {prev : Option ByteArray} {C : List Pair} (h : chkSet L b prev C = 0) : C.length ≤ L.length := by
  obtain ⟨h1, h2⟩ := chkSet_ok h
  have := pigeon (A := C.map (·.1)) (B := L.map (·.1)) (by
      unfold List.Nodup
      rw [List.pairwise_map]
      exact h2.imp fun {p q} (h : lt p.1 q.1) (e : p.1 = q.1) => lt_irr q.1 (e ▸ h)) fun a ha => by
    obtain ⟨p, hp, rfl⟩ := List.mem_map.1 ha
    obtain ⟨s, hs, _⟩ := h1 p hp
    obtain ⟨m1, m2⟩ := look_name hs
    exact List.mem_map.2 ⟨s, m1, m2⟩
  simpa using this
theorem cfg_words {L : List Setting} {b : Bool} {prev : Option ByteArray} {C : List Pair} (hL : chkSettings L = 0) (h : chkSet L b prev C = 0) : ∀ p ∈ C, isWord p.1 = true ∧ isWord p.2 = true := by
  intro p hp
  obtain ⟨s, hs, h2, _⟩ := (chkSet_ok h).1 p hp
  obtain ⟨m1, m2⟩ := look_name hs
  obtain ⟨_, w1, w2⟩ := (chkSettings_ne hL).2 s m1
  exact ⟨m2 ▸ w1, ((chkVals_ok w2).1 _ h2).1⟩
end Go.Proofs.YtocgdpnealaoeaaDoor.Ev

namespace Go.Proofs.YtocgdpnealaoeaaDoor.Ev
open Go Go.RowKit
set_option linter.unusedVariables false
set_option linter.unusedSimpArgs false
def partOf (p : Pair) : ByteArray := p.1 ++ (⟨#[61]⟩ : ByteArray) ++ p.2
def joinB (l : List ByteArray) : ByteArray := ⟨(Lib.join (l.map (·.data.toList)) [44]).toArray⟩
def cfgText (L : List Setting) (C : List Pair) : ByteArray × Int := if chkConfig L C ≠ 0 then (⟨#[]⟩, chkConfig L C) else if C = [] then (⟨#[45]⟩, 0) else (joinB (C.map partOf), 0)
theorem joinTail_len (sep : List UInt8) (m : Nat) : ∀ (l : List (List UInt8)), (∀ x ∈ l, x.length ≤ m) → (Lib.joinTail sep l).length ≤ l.length * (m + sep.length)
  | [], _ => by simp [Lib.joinTail]
  | x :: l, h => by
    have ih := joinTail_len sep m l fun y hy => h y (by simp [hy])
    have hx := h x (by simp)
    unfold Lib.joinTail at ih ⊢
    simp only [List.map_cons, List.flatten_cons, List.length_append, List.length_cons]
    rw [Nat.add_mul]
    omega
theorem join_len (sep : List UInt8) (m : Nat) (l : List (List UInt8)) (h : ∀ x ∈ l, x.length ≤ m) : (Lib.join l sep).length ≤ l.length * (m + sep.length) := by
  cases l with
  | nil => simp [Lib.join_nil]
  | cons x l =>
    rw [Lib.join_cons, List.length_append, List.length_cons, Nat.add_mul]
    have h1 := joinTail_len sep m l fun y hy => h y (by simp [hy])
    have h2 := h x (by simp)
    omega
theorem partOf_size (p : Pair) : (partOf p).size = p.1.size + 1 + p.2.size := by
  unfold partOf
  rw [ByteArray.size_append, ByteArray.size_append]; rfl
theorem part_small {L : List Setting} {C : List Pair} (h : chkConfig L C = 0) : C.length ≤ 30 ∧ ∀ p ∈ C, p.1.size ≤ 40 ∧ p.2.size ≤ 40 := by
  obtain ⟨h1, h2⟩ := chkConfig_ok h
  have := cfg_len h2
  have := (chkSettings_ne h1).1
  exact ⟨by omega, fun p hp => ⟨(isWord_size (cfg_words h1 h2 p hp).1).2, (isWord_size (cfg_words h1 h2 p hp).2).2⟩⟩
theorem joinF_ok {l : List ByteArray} (h1 : l.length ≤ 30) (h2 : ∀ x ∈ l, x.size ≤ 81) : joinF l ⟨#[44]⟩ = some (joinB l) := by
  unfold joinF
  have hs : (⟨#[44]⟩ : ByteArray).data.toList = [44] := rfl
  rw [hs]
  have := join_len [44] 81 (l.map (·.data.toList)) fun x hx => by
    obtain ⟨y, hy, rfl⟩ := List.mem_map.1 hx
    have := h2 y hy
    simpa using this
  rw [List.length_map] at this
  have h3 : l.length * (81 + 1) ≤ 30 * 82 := Nat.mul_le_mul_right _ h1
  rw [if_pos ⟨by omega, Nat.le_trans this (Nat.le_trans h3 (by decide))⟩]
  rfl
theorem S31_spec (L : List Setting) (C : List Pair) (hL : SetSz L) (hC : C.length ≤ 140737488355328) : Ultk (fun k => S31 k (L, C, ())) (cfgText L C) := by
  unfold S31 cfgText
  refine Ult.bind (S57_spec L C hL hC) (Ult.ifS (ine_eq _ _) (fun _ => Ult.ret) fun h0 => ?_)
  obtain ⟨h30, hp⟩ := part_small (Decidable.not_not.1 h0)
  refine Ult.ifS (by rw [ieq_eq]; unfold len; simp only [decide_eq_decide]; rw [← List.length_eq_zero_iff]; omega) (fun _ => Ult.ret) fun hne => ?_
  refine Ult.forA (A := List ByteArray) (fun _ => Nat.le_refl _) C.length (fun a j => (a, (j : Int))) (fun a j => a = (C.take j).map partOf) (fun _ _ => (joinB (C.map partOf), 0)) [] (by simp) fun a j hj ha next => ?_
  subst ha
  dsimp only
  rw [iltL]
  by_cases hlt' : ¬ j < C.length
  · refine Ult.no (decide_eq_false hlt') ?_
    rw [List.take_of_length_le (by omega)]
    have hjn : ∀ k, S58 k (C.map partOf, (⟨#[44]⟩ : ByteArray), ()) = some (joinB (C.map partOf)) := fun k => joinF_ok (by rw [List.length_map]; exact h30) fun x hx => by
      obtain ⟨p, hpm, rfl⟩ := List.mem_map.1 hx
      have := hp p hpm
      rw [partOf_size]; omega
    exact Ult.bind ⟨0, fun i _ => hjn _⟩ Ult.ret
  have hlt : j < C.length := Decidable.not_not.1 hlt'
  have hpj := hp _ (List.getElem_mem hlt)
  refine Ult.yes (decide_eq_true hlt) (Ult.bindc (at?_nat hlt) ?_)
  refine Ult.bindc (cat?_ok (show C[j].1.size + (⟨#[61]⟩ : ByteArray).size ≤ _ by rw [show (⟨#[61]⟩ : ByteArray).size = 1 from rfl]; omega)) ?_
  refine Ult.bindc (cat?_ok (show (C[j].1 ++ (⟨#[61]⟩ : ByteArray)).size + C[j].2.size ≤ _ by rw [ByteArray.size_append, show (⟨#[61]⟩ : ByteArray).size = 1 from rfl]; omega)) ?_
  refine Ult.bindc (app?_ok (by simp only [List.length_map, List.length_take, List.length_cons, List.length_nil]; have := Nat.min_le_left j C.length; show (min j C.length + (0 + 1)) * 16 ≤ _; omega)) ?_
  rw [isucc hlt (by omega)]
  exact next _ hlt (by rw [List.take_succ_eq_append_getElem hlt, List.map_append]; rfl)
theorem S13_spec : Ultk (fun k => S13 k ()) true := by
  unfold S13
  have h : cfgText [((⟨#[109]⟩ : ByteArray), [(⟨#[97]⟩ : ByteArray), (⟨#[98]⟩ : ByteArray)])] [((⟨#[109]⟩ : ByteArray), (⟨#[98]⟩ : ByteArray))] = (⟨#[109, 61, 98]⟩, 0) := by decide +kernel
  have hs := S31_spec [((⟨#[109]⟩ : ByteArray), [(⟨#[97]⟩ : ByteArray), (⟨#[98]⟩ : ByteArray)])] [((⟨#[109]⟩ : ByteArray), (⟨#[98]⟩ : ByteArray))] ⟨by decide, fun s hs => by
    obtain rfl : s = ((⟨#[109]⟩ : ByteArray), [(⟨#[97]⟩ : ByteArray), (⟨#[98]⟩ : ByteArray)]) := by simpa using hs
    refine ⟨by decide, by decide, fun v hv => ?_⟩
    rcases List.mem_cons.1 hv with rfl | hv
    · decide
    · obtain rfl : v = (⟨#[98]⟩ : ByteArray) := by simpa using hv
      decide⟩ (by decide)
  rw [h] at hs
  refine Ult.bind hs (Ult.yes rfl (Ult.ret.eq ?_))
  rw [seq_eq]
  exact decide_eq_true rfl
end Go.Proofs.YtocgdpnealaoeaaDoor.Ev

namespace Go.Proofs.YtocgdpnealaoeaaDoor.Ev
open Go Go.RowKit
set_option linter.unusedVariables false
set_option linter.unusedSimpArgs false
abbrev Platform : Type := ByteArray × List Pair
abbrev Tool : Type := ByteArray × ByteArray × List Pair × List Pair
abbrev Condition : Type := ByteArray × List Pair × List Pair
abbrev Transition : Type := ByteArray × List Pair × List ByteArray
abbrev CWorld : Type := List Setting × List Condition × List Platform × List Tool × List Transition
def PlatSz (L : List Platform) : Prop := L.length * 40 ≤ 140737488351232 ∧ ∀ p ∈ L, p.1.size ≤ 140737488351232 ∧ PairSz p.2
def ToolSz (L : List Tool) : Prop := L.length * 80 ≤ 140737488351232 ∧ ∀ p ∈ L, p.1.size ≤ 140737488351232 ∧ p.2.1.size ≤ 140737488351232 ∧ PairSz p.2.2.1 ∧ PairSz p.2.2.2
def CondSz (L : List Condition) : Prop := L.length * 64 ≤ 140737488351232 ∧ ∀ p ∈ L, p.1.size ≤ 140737488351232 ∧ PairSz p.2.1 ∧ PairSz p.2.2
def StrsSz (L : List ByteArray) : Prop := L.length * 16 ≤ 140737488351232 ∧ ∀ s ∈ L, s.size ≤ 140737488351232
def TranSz (L : List Transition) : Prop := L.length * 64 ≤ 140737488351232 ∧ ∀ p ∈ L, p.1.size ≤ 140737488351232 ∧ PairSz p.2.1 ∧ StrsSz p.2.2
def WorldSz (x : CWorld) : Prop := SetSz x.1 ∧ CondSz x.2.1 ∧ PlatSz x.2.2.1 ∧ ToolSz x.2.2.2.1 ∧ TranSz x.2.2.2.2
variable {ι R α : Type} {l : ι → Nat}

/-! ### loops that only look -/
theorem idx_loop {kk : ι → Nat} (hk : ∀ i, l i ≤ kk i) (L : List α) (f : ι → α → Option Bool) (p : α → Bool) (hf : ∀ a ∈ L, Ult l (fun i => f i a) (p a)) (hL : L.length ≤ 9223372036854775807) :
    Ult l (fun i => loopN (kk i) (fun (next : Int → Option Int) (j : Int) => cnd (ilt j (len L)) (bnd (at? L j) fun a => bnd (f i a) fun b => cnd b (some j) (next (iadd .i64 j 1))) (some (-1))) 0) (idxF p 0 L) := by
  refine (Ult.forI hk L.length (fun j => idxF p j (L.drop j)) fun j hj next => ?_).eq (by rw [List.drop_zero])
  rw [iltL]
  by_cases hlt' : ¬ j < L.length
  · refine Ult.no (decide_eq_false hlt') (Ult.ret.eq ?_)
    rw [List.drop_eq_nil_of_le (by omega)]; rfl
  have hlt : j < L.length := Decidable.not_not.1 hlt'
  refine Ult.yes (decide_eq_true hlt) (Ult.bindc (at?_nat hlt) (Ult.bind (hf _ (List.getElem_mem hlt)).lift ?_))
  rw [drop_cons hlt, idxF, isucc hlt hL]
  exact Ult.ifS (by simp) (fun h => Ult.ret) (fun h => next hlt)
theorem any_loop {kk : ι → Nat} (hk : ∀ i, l i ≤ kk i) (L : List α) (g : α → Bool) {r1 r2 : R} {y n : ι → Option R} (hy : Ult l y r1) (hn : Ult l n r2) (hL : L.length ≤ 9223372036854775807) :
    Ult l (fun i => loopN (kk i) (fun (next : Int → Option R) (j : Int) => cnd (ilt j (len L)) (bnd (at? L j) fun a => cnd (g a) (y i) (next (iadd .i64 j 1))) (n i)) 0) (if L.any g = true then r1 else r2) := by
  refine (Ult.forI hk L.length (fun j => if (L.drop j).any g = true then r1 else r2) fun j hj next => ?_).eq (by rw [List.drop_zero])
  rw [iltL]
  by_cases hlt' : ¬ j < L.length
  · refine Ult.no (decide_eq_false hlt') (hn.lift.eq ?_)
    rw [List.drop_eq_nil_of_le (by omega)]; rfl
  have hlt : j < L.length := Decidable.not_not.1 hlt'
  refine Ult.yes (decide_eq_true hlt) (Ult.bindc (at?_nat hlt) ?_)
  rw [drop_cons hlt, List.any_cons, isucc hlt hL]
  cases hg : g L[j]
  · exact Ult.no rfl (next hlt)
  · exact Ult.yes rfl (hy.lift.eq (by simp))
theorem all_loop {kk : ι → Nat} (hk : ∀ i, l i ≤ kk i) (L : List α) (f : ι → α → Option Bool) (p : α → Bool) {r1 r2 : R} {y n : ι → Option R} (hy : Ult l y r1) (hn : Ult l n r2) (hf : ∀ a ∈ L, Ult l (fun i => f i a) (p a)) (hL : L.length ≤ 9223372036854775807) :
    Ult l (fun i => loopN (kk i) (fun (next : Int → Option R) (j : Int) => cnd (ilt j (len L)) (bnd (at? L j) fun a => bnd (f i a) fun b => cnd (bnot b) (n i) (next (iadd .i64 j 1))) (y i)) 0) (if L.all p = true then r1 else r2) := by
  refine (Ult.forI hk L.length (fun j => if (L.drop j).all p = true then r1 else r2) fun j hj next => ?_).eq (by rw [List.drop_zero])
  rw [iltL]
  by_cases hlt' : ¬ j < L.length
  · refine Ult.no (decide_eq_false hlt') (hy.lift.eq ?_)
    rw [List.drop_eq_nil_of_le (by omega)]; rfl
  have hlt : j < L.length := Decidable.not_not.1 hlt'
  refine Ult.yes (decide_eq_true hlt) (Ult.bindc (at?_nat hlt) (Ult.bind (hf _ (List.getElem_mem hlt)).lift ?_))
  rw [drop_cons hlt, List.all_cons, isucc hlt hL]
  cases hg : p L[j]
  · exact Ult.yes rfl (hn.lift.eq (by simp))
  · exact Ult.no rfl (next hlt)
theorem idxF_any {p : α → Bool} {L : List α} : ige (idxF p 0 L) 0 = L.any p := by
  rw [ige_eq]
  rcases idxF_cases p 0 L with ⟨h1, h2⟩ | ⟨i, hi, h1, h2, h3⟩
  · rw [h1]
    rw [List.find?_eq_none] at h2
    have : L.any p = false := by
      rw [List.any_eq_false]
      intro a ha; exact h2 a ha
    rw [this]; rfl
  · rw [h1, decide_eq_true (Int.natCast_nonneg _)]
    exact (List.any_eq_true.2 ⟨L[i], List.getElem_mem hi, h3⟩).symm

/-! ### pairs -/
def chkPairs : Option ByteArray → List Pair → Int
  | _, [] => 0
  | prev, p :: r => if isWord p.1 = false then 5 else if isWord p.2 = false then 1 else if notAbove prev p.1 = true then 8 else chkPairs (some p.1) r
def chkPairsL (L : List Pair) : Int := if 30 < L.length then 2 else chkPairs none L
theorem S49_spec (L : List Pair) (hL : PairSz L) : Ultk (fun k => S49 k (L, ())) (chkPairsL L) := by
  unfold S49 chkPairsL
  have hlen := hL.len
  refine Ult.ifS (by rw [igt_eq]; unfold len; simp only [decide_eq_decide]; omega) (fun _ => Ult.ret) fun h30 => ?_
  refine (Ult.forI (fun _ => Nat.le_refl _) L.length (fun j => chkPairs (prevOf L j) (L.drop j)) fun j hj next => ?_).eq (by rw [List.drop_zero, prevOf_zero])
  dsimp only
  rw [iltL]
  by_cases hlt' : ¬ j < L.length
  · refine Ult.no (decide_eq_false hlt') (Ult.ret.eq ?_)
    rw [List.drop_eq_nil_of_le (by omega)]
    cases prevOf L j <;> rfl
  have hlt : j < L.length := Decidable.not_not.1 hlt'
  refine Ult.yes (decide_eq_true hlt) (Ult.bindc (at?_nat hlt) ?_)
  obtain ⟨s1, s2⟩ := hL.2 _ (List.getElem_mem hlt)
  rw [drop_cons hlt, chkPairs, ← prevOf_succ hlt, isucc hlt (by omega)]
  refine Ult.bind (Ult.call (f := fun k => S48 k (L[j].1, ())) (lp_le _ _ fun _ => Nat.le_refl _) (S48_spec L[j].1 (by omega))) (Ult.ifS (not_false_eq _) (fun _ => Ult.ret) fun _ => ?_)
  refine Ult.bind (Ult.call (f := fun k => S48 k (L[j].2, ())) (lp_le _ _ fun _ => Nat.le_refl _) (S48_spec L[j].2 (by omega))) (Ult.ifS (not_false_eq _) (fun _ => Ult.ret) fun _ => ?_)
  exact order_step hlt (by omega) (next hlt)
def chkPlats : List Platform → List Platform → Int
  | _, [] => 0
  | seen, p :: r => if isWord p.1 = false then 5 else if chkPairsL p.2 ≠ 0 then chkPairsL p.2 else if (seen.any fun q => decide (q.1 = p.1)) = true then 7 else chkPlats (seen ++ [p]) r
def chkPlatforms (L : List Platform) : Int := if 50 < L.length then 2 else chkPlats [] L
theorem S71_spec {kk : ι → Nat} (hk : ∀ i, l i ≤ kk i) (L : List Platform) (f : ι → Platform → Option Bool) (p : Platform → Bool) (hf : ∀ a ∈ L, Ult l (fun i => f i a) (p a)) (hL : L.length ≤ 9223372036854775807) : Ult l (fun i => S71 (kk i) (L, f i, ())) (idxF p 0 L) := by
  unfold S71
  exact idx_loop hk L f p hf hL
theorem S50_spec {kk : ι → Nat} (hk : ∀ i, l i ≤ kk i) (L : List Platform) (f : ι → Platform → Option Bool) (p : Platform → Bool) (hf : ∀ a ∈ L, Ult l (fun i => f i a) (p a)) (hL : L.length ≤ 9223372036854775807) : Ult l (fun i => S50 (kk i) (L, f i, ())) (L.any p) := by
  unfold S50
  exact Ult.bind (S71_spec hk L f p hf hL) (Ult.ret.eq idxF_any)
theorem S27_spec (L : List Platform) (hL : PlatSz L) : Ultk (fun k => S27 k (L, ())) (chkPlatforms L) := by
  unfold S27 chkPlatforms
  have hlen := len_big hL.1 (by omega)
  refine Ult.ifS (by rw [igt_eq]; unfold len; simp only [decide_eq_decide]; omega) (fun _ => Ult.ret) fun h30 => ?_
  refine (Ult.forI (fun _ => Nat.le_refl _) L.length (fun j => chkPlats (L.take j) (L.drop j)) fun j hj next => ?_).eq (by rw [List.drop_zero, List.take_zero])
  dsimp only
  rw [iltL]
  by_cases hlt' : ¬ j < L.length
  · refine Ult.no (decide_eq_false hlt') (Ult.ret.eq ?_)
    rw [List.drop_eq_nil_of_le (by omega)]; rfl
  have hlt : j < L.length := Decidable.not_not.1 hlt'
  refine Ult.yes (decide_eq_true hlt) (Ult.bindc (at?_nat hlt) ?_)
  obtain ⟨s1, s2⟩ := hL.2 _ (List.getElem_mem hlt)
  rw [drop_cons hlt, chkPlats, ← List.take_succ_eq_append_getElem hlt, isucc hlt (by omega)]
  have hsp := S49_spec L[j].2 s2
  refine Ult.bind (Ult.call (f := fun k => S48 k (L[j].1, ())) (lp_le _ _ fun _ => Nat.le_refl _) (S48_spec L[j].1 (by omega))) (Ult.ifS (not_false_eq _) (fun _ => Ult.ret) fun _ => ?_)
  refine Ult.bind (Ult.call (f := fun k => S49 k (L[j].2, ())) (lp_le _ _ fun _ => Nat.le_refl _) hsp) (Ult.ifS (ine_eq _ _) (fun _ => Ult.ret) fun _ => ?_)
  refine Ult.bindc (cut?_take (by omega)) ?_
  have ha := S50_spec (l := lp fun k => k) (kk := fun p => p.1) (lp_le _ _ fun _ => Nat.le_refl _) (L.take j) (fun p a => S51 p.1 (a, (L[j].1, L[j].2), ())) (fun q => decide (q.1 = L[j].1)) (fun a _ => Ult.ret.eq (seq_eq _ _)) (by rw [List.length_take]; omega)
  exact Ult.bind ha (Ult.ifS (dec_true _) (fun _ => Ult.ret) fun _ => next hlt)
def chkTls : List Tool → List Tool → Int
  | _, [] => 0
  | seen, p :: r => if isWord p.1 = false then 5 else if isWord p.2.1 = false then 5 else if chkPairsL p.2.2.1 ≠ 0 then chkPairsL p.2.2.1 else if chkPairsL p.2.2.2 ≠ 0 then chkPairsL p.2.2.2 else if (seen.any fun q => decide (q.1 = p.1)) = true then 7 else chkTls (seen ++ [p]) r
def chkTools (L : List Tool) : Int := if 100 < L.length then 2 else chkTls [] L
theorem S54_spec {kk : ι → Nat} (hk : ∀ i, l i ≤ kk i) (L : List Tool) (f : ι → Tool → Option Bool) (p : Tool → Bool) (hf : ∀ a ∈ L, Ult l (fun i => f i a) (p a)) (hL : L.length ≤ 9223372036854775807) : Ult l (fun i => S54 (kk i) (L, f i, ())) (idxF p 0 L) := by
  unfold S54
  exact idx_loop hk L f p hf hL
theorem S52_spec {kk : ι → Nat} (hk : ∀ i, l i ≤ kk i) (L : List Tool) (f : ι → Tool → Option Bool) (p : Tool → Bool) (hf : ∀ a ∈ L, Ult l (fun i => f i a) (p a)) (hL : L.length ≤ 9223372036854775807) : Ult l (fun i => S52 (kk i) (L, f i, ())) (L.any p) := by
  unfold S52
  exact Ult.bind (S54_spec hk L f p hf hL) (Ult.ret.eq idxF_any)
theorem S28_spec (L : List Tool) (hL : ToolSz L) : Ultk (fun k => S28 k (L, ())) (chkTools L) := by
  unfold S28 chkTools
  have hlen := len_big hL.1 (by omega)
  refine Ult.ifS (by rw [igt_eq]; unfold len; simp only [decide_eq_decide]; omega) (fun _ => Ult.ret) fun h30 => ?_
  refine (Ult.forI (fun _ => Nat.le_refl _) L.length (fun j => chkTls (L.take j) (L.drop j)) fun j hj next => ?_).eq (by rw [List.drop_zero, List.take_zero])
  dsimp only
  rw [iltL]
  by_cases hlt' : ¬ j < L.length
  · refine Ult.no (decide_eq_false hlt') (Ult.ret.eq ?_)
    rw [List.drop_eq_nil_of_le (by omega)]; rfl
  have hlt : j < L.length := Decidable.not_not.1 hlt'
  refine Ult.yes (decide_eq_true hlt) (Ult.bindc (at?_nat hlt) ?_)
  obtain ⟨s1, s2, s3, s4⟩ := hL.2 _ (List.getElem_mem hlt)
  rw [drop_cons hlt, chkTls, ← List.take_succ_eq_append_getElem hlt, isucc hlt (by omega)]
  have hp1 := S49_spec L[j].2.2.1 s3
  have hp2 := S49_spec L[j].2.2.2 s4
  refine Ult.jn (Ult.bind (Ult.call (f := fun k => S48 k (L[j].1, ())) (lp_le _ _ fun _ => Nat.le_refl _) (S48_spec L[j].1 (by omega))) (Ult.ifS (not_false_eq _) (fun _ => Ult.ret) fun _ => ?_))
  refine Ult.bind (Ult.call (f := fun k => S48 k (L[j].2.1, ())) (lp_le _ _ fun _ => Nat.le_refl _) (S48_spec L[j].2.1 (by omega))) (Ult.ifS (not_false_eq _) (fun _ => Ult.ret) fun _ => ?_)
  refine Ult.bind (Ult.call (f := fun k => S49 k (L[j].2.2.1, ())) (lp_le _ _ fun _ => Nat.le_refl _) hp1) (Ult.ifS (ine_eq _ _) (fun _ => Ult.ret) fun _ => ?_)
  refine Ult.bind (Ult.call (f := fun k => S49 k (L[j].2.2.2, ())) (lp_le _ _ fun _ => Nat.le_refl _) hp2) (Ult.ifS (ine_eq _ _) (fun _ => Ult.ret) fun _ => ?_)
  refine Ult.bindc (cut?_take (by omega)) ?_
  have ha := S52_spec (l := lp fun k => k) (kk := fun p => p.1) (lp_le _ _ fun _ => Nat.le_refl _) (L.take j) (fun p a => S53 p.1 (a, (L[j].1, L[j].2.1, L[j].2.2.1, L[j].2.2.2), ())) (fun q => decide (q.1 = L[j].1)) (fun a _ => Ult.ret.eq (seq_eq _ _)) (by rw [List.length_take]; omega)
  exact Ult.bind ha (Ult.ifS (dec_true _) (fun _ => Ult.ret) fun _ => next hlt)
def chkKinds : Option ByteArray → List ByteArray → Int
  | _, [] => 0
  | prev, p :: r => if isWord p = false then 5 else if notAbove prev p = true then 8 else chkKinds (some p) r
def prevK (L : List ByteArray) (j : Nat) : Option ByteArray := if h : 0 < j ∧ j - 1 < L.length then some (L[j - 1]'h.2) else none
theorem prevK_succ {L : List ByteArray} {j : Nat} (h : j < L.length) : prevK L (j + 1) = some L[j] := by unfold prevK; rw [dif_pos ⟨Nat.succ_pos _, by simpa using h⟩]; simp
theorem order_stepK {C : List ByteArray} {j : Nat} (hlt : j < C.length) (hC : C.length ≤ 9223372036854775807) {e rest : R} {y f : ι → Option R} (he : Ult l y e) (nx : Ult l f rest) :
    Ult l (fun i => cnd (igt (j : Int) 0) (bnd (at? C (isub .i64 (j : Int) 1)) fun a => cnd (sle C[j] a) (y i) (f i)) (f i)) (if notAbove (prevK C j) C[j] = true then e else rest) := by
  rw [igt0]
  by_cases h0 : 0 < j
  · refine Ult.yes (decide_eq_true h0) ?_
    rw [ipred (n := C.length) h0 (by omega) (by omega)]
    refine Ult.bindc (at?_nat (show j - 1 < C.length by omega)) ?_
    have hp : prevK C j = some C[j - 1] := by unfold prevK; rw [dif_pos ⟨h0, by omega⟩]
    rw [hp]
    exact Ult.ifS (dec_true _) (fun _ => he) fun _ => nx
  · refine Ult.no (decide_eq_false h0) ?_
    have : j = 0 := by omega
    subst this
    rw [show prevK C 0 = none from rfl, if_neg (by simp [notAbove])]
    exact nx
theorem S29_spec (L : List ByteArray) (hL : StrsSz L) : Ultk (fun k => S29 k (L, ())) (if 30 < L.length then 2 else chkKinds none L) := by
  unfold S29
  have hlen := len_big hL.1 (by omega)
  refine Ult.ifS (by rw [igt_eq]; unfold len; simp only [decide_eq_decide]; omega) (fun _ => Ult.ret) fun h30 => ?_
  refine (Ult.forI (fun _ => Nat.le_refl _) L.length (fun j => chkKinds (prevK L j) (L.drop j)) fun j hj next => ?_).eq (by rw [List.drop_zero]; rfl)
  dsimp only
  rw [iltL]
  by_cases hlt' : ¬ j < L.length
  · refine Ult.no (decide_eq_false hlt') (Ult.ret.eq ?_)
    rw [List.drop_eq_nil_of_le (by omega)]
    cases prevK L j <;> rfl
  have hlt : j < L.length := Decidable.not_not.1 hlt'
  refine Ult.yes (decide_eq_true hlt) (Ult.bindc (at?_nat hlt) ?_)
  have s1 := hL.2 _ (List.getElem_mem hlt)
  rw [drop_cons hlt, chkKinds, ← prevK_succ hlt, isucc hlt (by omega)]
  refine Ult.bind (Ult.call (f := fun k => S48 k (L[j], ())) (lp_le _ _ fun _ => Nat.le_refl _) (S48_spec L[j] (by omega))) (Ult.ifS (not_false_eq _) (fun _ => Ult.ret) fun _ => ?_)
  exact order_stepK hlt (by omega) Ult.ret (next hlt)

/-! ### what fits -/
def hasP (L : List Pair) (p : Pair) : Bool := L.any fun q => decide (p = q)
theorem S89_spec (L : List Pair) (p : Pair) (hL : L.length ≤ 9223372036854775807) : Ultk (fun k => S89 k (L, p, ())) (idxF (fun q => decide (p = q)) 0 L) := by
  unfold S89
  have h := idx_loop (l := fun k : Nat => k) (fun _ => Nat.le_refl _) L (fun _ a => some (kbeq (Kd.agg (Kd.pair Kd.str Kd.str)) (p.1, p.2) a)) (fun q => decide (p = q)) (fun a _ => Ult.ret.eq (kbeq_pair _ _)) hL
  exact h
theorem S72_spec (L : List Pair) (p : Pair) (hL : L.length ≤ 9223372036854775807) : Ultk (fun k => S72 k (L, p, ())) (hasP L p) := by
  unfold S72
  exact Ult.bind (S89_spec L p hL) (Ult.ret.eq idxF_any)
def fitP (A B : List Pair) : Bool := A.all fun p => hasP B p
theorem if_all (b : Bool) : (if b = true then true else false) = b := by cases b <;> rfl
theorem S56_spec (A B : List Pair) (hA : A.length ≤ 9223372036854775807) (hB : B.length ≤ 9223372036854775807) : Ultk (fun k => S56 k (A, B, ())) (fitP A B) := by
  unfold S56
  have h := all_loop (l := fun k : Nat => k) (fun _ => Nat.le_refl _) A (fun k a => S72 k (B, (a.1, a.2), ())) (fun p => hasP B p) (Ult.ret (r := true)) (Ult.ret (r := false)) (fun a _ => S72_spec B a hB) hA
  exact h.eq (if_all _)
end Go.Proofs.YtocgdpnealaoeaaDoor.Ev

namespace Go.Proofs.YtocgdpnealaoeaaDoor.Ev
open Go Go.RowKit
set_option linter.unusedVariables false
set_option linter.unusedSimpArgs false
variable {ι R α X : Type} {l : ι → Nat}
theorem Ult.copyI {st : ι → (X → Option R) → X → Option R} {k : ι → Nat} (hk : ∀ i, l i ≤ k i) (L : List α) (mk : List α → Nat → X) (r : R)
    (hd : Ult (lp l) (fun p => st p.1 (loopN p.2 (st p.1)) (mk L L.length)) r)
    (hs : ∀ j, (h : j < L.length) → Ult (lp l) (fun p => loopN p.2 (st p.1) (mk (L.take j ++ [L[j]]) (j + 1))) r → Ult (lp l) (fun p => st p.1 (loopN p.2 (st p.1)) (mk (L.take j) j)) r) :
    Ult l (fun i => loopN (k i) (st i) (mk [] 0)) r := by
  refine Ult.forA (A := List α) hk L.length mk (fun v j => v = L.take j) (fun _ _ => r) [] (by simp) fun v j hj hv next => ?_
  subst hv
  by_cases hlt' : ¬ j < L.length
  · have : j = L.length := by omega
    subst this
    rw [List.take_of_length_le (Nat.le_refl _)]
    exact hd
  have hlt : j < L.length := Decidable.not_not.1 hlt'
  refine hs j hlt ?_
  rw [show L.take j ++ [L[j]] = L.take (j + 1) by rw [List.take_succ_eq_append_getElem hlt]]
  exact next _ hlt rfl
theorem iltE (L : List α) : ilt (L.length : Int) (len L) = false := by rw [iltL]; simp
theorem takeL {L : List α} {j : Nat} (h : j < L.length) : (L.take j).length = j := by rw [List.length_take]; omega

end Go.Proofs.YtocgdpnealaoeaaDoor.Ev

namespace Go.Proofs.YtocgdpnealaoeaaDoor.Ev
open Go Go.RowKit
set_option linter.unusedVariables false
set_option linter.unusedSimpArgs false
variable {ι R α X : Type} {l : ι → Nat}
def fitT (kd : ByteArray) (p q : Platform) (t : Tool) : Bool := if t.2.1 = kd then (if fitP t.2.2.1 p.2 = true then fitP t.2.2.2 q.2 else false) else false
def toolsOn (T : List Tool) (p q : Platform) : List ByteArray → List ByteArray → List ByteArray × Bool
  | acc, [] => (acc, true)
  | acc, kd :: r => match T.find? (fitT kd p q) with
    | none => ([], false)
    | some t => toolsOn T p q (acc ++ [t.1]) r
theorem S55_spec (t : Tool) (kd : ByteArray) (p q : Platform) (h1 : PairSz t.2.2.1) (h2 : PairSz t.2.2.2) (h3 : PairSz p.2) (h4 : PairSz q.2) : Ultk (fun k => S55 k (t, kd, p, q, ())) (fitT kd p q t) := by
  unfold S55 fitT
  have l1 := h1.len
  have l2 := h2.len
  have l3 := h3.len
  have l4 := h4.len
  refine Ult.ifS (seq_eq _ _) (fun _ => ?_) (fun _ => Ult.ret)
  refine Ult.bind (S56_spec t.2.2.1 p.2 (by omega) (by omega)) (Ult.ifS (dec_true _) (fun _ => ?_) (fun _ => Ult.ret))
  exact Ult.bind (S56_spec t.2.2.2 q.2 (by omega) (by omega)) Ult.ret
theorem S30_spec (T : List Tool) (K : List ByteArray) (p q : Platform) (hT : ToolSz T) (hK : StrsSz K) (h3 : PairSz p.2) (h4 : PairSz q.2) : Ultk (fun k => S30 k (T, K, p, q, ())) (toolsOn T p q [] K) := by
  unfold S30
  have lT := len_big hT.1 (by omega)
  have lK := len_big hK.1 (by omega)
  have mK := hK.1
  refine (Ult.forA (A := List ByteArray) (fun _ => Nat.le_refl _) K.length (fun a j => (a, (j : Int))) (fun a j => a.length = j) (fun a j => toolsOn T p q a (K.drop j)) [] rfl fun a j hj ha next => ?_).eq (by rw [List.drop_zero])
  dsimp only
  rw [iltL]
  by_cases hlt' : ¬ j < K.length
  · refine Ult.no (decide_eq_false hlt') (Ult.ret.eq ?_)
    rw [List.drop_eq_nil_of_le (by omega)]; rfl
  have hlt : j < K.length := Decidable.not_not.1 hlt'
  refine Ult.yes (decide_eq_true hlt) (Ult.bindc (at?_nat hlt) ?_)
  rw [drop_cons hlt, toolsOn, isucc hlt (by omega)]
  have ha' := S54_spec (l := lp fun k => k) (kk := fun p => p.1) (lp_le _ _ fun _ => Nat.le_refl _) T (fun r a => S55 r.1 (a, K[j], (p.1, p.2), (q.1, q.2), ())) (fitT K[j] p q) (fun t ht => by
    obtain ⟨s1, s2, s3, s4⟩ := hT.2 _ ht
    exact Ult.call (f := fun k => S55 k (t, K[j], p, q, ())) (lp_le _ _ fun _ => Nat.le_refl _) (S55_spec t K[j] p q s3 s4 h3 h4)) (by omega)
  refine Ult.bind ha' ?_
  rcases idxF_cases (fitT K[j] p q) 0 T with ⟨h1, h2⟩ | ⟨i, hi, h1, h2, h5⟩
  · rw [h1, h2]
    exact Ult.yes rfl Ult.ret
  · rw [Nat.zero_add] at h1
    rw [h1, h2]
    refine Ult.no (by rw [ilt_eq]; simp) ?_
    refine Ult.bindc (at?_nat hi) (Ult.bindc (app?_ok (by rw [ha]; show (j + 1) * 16 ≤ _; omega)) ?_)
    exact next _ hlt (by simp [ha])
abbrev Ans : Type := ByteArray × List ByteArray × Bool × Int
def orErr (n : Int) (r : Ans) : Ans := if n ≠ 0 then (⟨#[]⟩, [], false, n) else r
theorem orErr_ite {P : Prop} [Decidable P] {x y : Int} {r : Ans} : orErr (if P then x else y) r = if P then orErr x r else orErr y r := by split <;> rfl
theorem orErr_zero {r : Ans} : orErr 0 r = r := rfl
def kindsChk (K : List ByteArray) : Int := if 30 < K.length then 2 else chkKinds none K
def firstPlat (T : List Tool) (K : List ByteArray) (q : Platform) : List Platform → Ans
  | [] => (⟨#[]⟩, [], false, 0)
  | p :: r => if (toolsOn T p q [] K).2 = true then (p.1, (toolsOn T p q [] K).1, true, 0) else firstPlat T K q r
def toolsAns (P : List Platform) (T : List Tool) (K : List ByteArray) (q : Platform) : Ans :=
  orErr (chkPlatforms P) (orErr (chkTools T) (orErr (kindsChk K) (orErr (chkPlatforms [q]) (firstPlat T K q P))))
theorem PlatSz.one {q : Platform} (h1 : q.1.size ≤ 140737488351232) (h2 : PairSz q.2) : PlatSz [q] :=
  ⟨by show 1 * 40 ≤ _; omega, fun p hp => by rw [List.mem_singleton] at hp; subst hp; exact ⟨h1, h2⟩⟩
theorem first_loop {kk : ι → Nat} (hk : ∀ i, l i ≤ kk i) (T : List Tool) (K : List ByteArray) (q : Platform) (P : List Platform) (f : ι → Platform → Option (List ByteArray × Bool)) (hf : ∀ p ∈ P, Ult l (fun i => f i p) (toolsOn T p q [] K)) (hP : P.length ≤ 9223372036854775807) :
    Ult l (fun i => loopN (kk i) (fun (a6 : Int → Option Ans) (a7 : Int) => cnd (ilt a7 (len P)) (bnd (at? P a7) fun a8 => bnd (f i a8) fun a9 => cnd a9.2 (some (a8.1, a9.1, true, 0)) (a6 (iadd .i64 a7 1))) (some ((⟨#[]⟩ : ByteArray), ([] : List ByteArray), false, 0))) 0) (firstPlat T K q P) := by
  refine (Ult.forI hk P.length (fun j => firstPlat T K q (P.drop j)) fun j hj next => ?_).eq (by rw [List.drop_zero])
  rw [iltL]
  by_cases hlt' : ¬ j < P.length
  · refine Ult.no (decide_eq_false hlt') (Ult.ret.eq ?_)
    rw [List.drop_eq_nil_of_le (by omega)]; rfl
  have hlt : j < P.length := Decidable.not_not.1 hlt'
  refine Ult.yes (decide_eq_true hlt) (Ult.bindc (at?_nat hlt) (Ult.bind (hf _ (List.getElem_mem hlt)).lift ?_))
  rw [drop_cons hlt, firstPlat, isucc hlt hP]
  exact Ult.ifS (dec_true _) (fun _ => Ult.ret) (fun _ => next hlt)
theorem S12_spec (P : List Platform) (T : List Tool) (K : List ByteArray) (q : Platform) (hP : PlatSz P) (hT : ToolSz T) (hK : StrsSz K) (h1 : q.1.size ≤ 140737488351232) (h2 : PairSz q.2) : Ultk (fun k => S12 k (P, T, K, q, ())) (toolsAns P T K q) := by
  unfold S12 toolsAns
  have lP := len_big hP.1 (by omega)
  refine Ult.bind (S27_spec P hP) (Ult.ifS (ine_eq _ _) (fun _ => Ult.ret) fun _ => ?_)
  refine Ult.bind (S28_spec T hT) (Ult.ifS (ine_eq _ _) (fun _ => Ult.ret) fun _ => ?_)
  refine Ult.bind (S29_spec K hK) (Ult.ifS (ine_eq _ _) (fun _ => Ult.ret) fun _ => ?_)
  refine Ult.bind (S27_spec [q] (PlatSz.one h1 h2)) (Ult.ifS (ine_eq _ _) (fun _ => Ult.ret) fun _ => ?_)
  exact first_loop (l := fun k : Nat => k) (fun _ => Nat.le_refl _) T K q P (fun k p => S30 k (T, K, (p.1, p.2), (q.1, q.2), ())) (fun p hp => S30_spec T K p q hT hK (hP.2 p hp).2 h2) (by omega)
theorem toolsOn_len {T : List Tool} {p q : Platform} : ∀ {K acc : List ByteArray}, (toolsOn T p q acc K).1.length ≤ acc.length + K.length
  | [], acc => Nat.le_refl _
  | kd :: r, acc => by
    rw [toolsOn]
    split
    · exact Nat.zero_le _
    · have := toolsOn_len (T := T) (p := p) (q := q) (K := r) (acc := acc ++ [(‹Tool›).1])
      simp only [List.length_append, List.length_cons, List.length_nil] at this ⊢
      omega
theorem firstPlat_len {T : List Tool} {K : List ByteArray} {q : Platform} : ∀ {P : List Platform}, (firstPlat T K q P).2.1.length ≤ K.length
  | [] => Nat.zero_le _
  | p :: r => by
    rw [firstPlat]
    split
    · have := toolsOn_len (T := T) (p := p) (q := q) (K := K) (acc := [])
      simpa using this
    · exact firstPlat_len
theorem orErr_len {n : Int} {r : Ans} {m : Nat} (h : r.2.1.length ≤ m) : (orErr n r).2.1.length ≤ m := by
  unfold orErr
  split
  · exact Nat.zero_le _
  · exact h
theorem toolsAns_len {P : List Platform} {T : List Tool} {K : List ByteArray} {q : Platform} : (toolsAns P T K q).2.1.length ≤ K.length := orErr_len (orErr_len (orErr_len (orErr_len firstPlat_len)))
end Go.Proofs.YtocgdpnealaoeaaDoor.Ev

namespace Go.Proofs.YtocgdpnealaoeaaDoor.Ev
open Go Go.RowKit
set_option linter.unusedVariables false
set_option linter.unusedSimpArgs false
variable {ι R α X : Type} {l : ι → Nat}
variable {T : List Tool} {p q : Platform}
theorem toolsOn_iff : ∀ (K acc : List ByteArray), (toolsOn T p q acc K).2 = K.all fun kd => (T.find? (fitT kd p q)).isSome
  | [], acc => rfl
  | kd :: r, acc => by
    rw [toolsOn, List.all_cons]
    cases h : T.find? (fitT kd p q) with
    | none => rfl
    | some t => exact toolsOn_iff r _
theorem toolsOn_full : ∀ (K acc : List ByteArray), (toolsOn T p q acc K).2 = true → (toolsOn T p q acc K).1.length = acc.length + K.length
  | [], acc, _ => rfl
  | kd :: r, acc, h => by
    rw [toolsOn] at h ⊢
    cases hf : T.find? (fitT kd p q) with
    | none => rw [hf] at h; cases h
    | some t =>
      rw [hf] at h
      have := toolsOn_full r _ h
      show (toolsOn T p q (acc ++ [t.1]) r).1.length = _
      rw [this]
      simp only [List.length_append, List.length_cons, List.length_nil]; omega
theorem toolsOn_fewer {K K' : List ByteArray} (hs : ∀ x ∈ K', x ∈ K) (h : (toolsOn T p q [] K).2 = true) : (toolsOn T p q [] K').2 = true := by
  rw [toolsOn_iff] at h ⊢
  rw [List.all_eq_true] at h ⊢
  exact fun x hx => h x (hs x hx)
theorem first_at (K : List ByteArray) : ∀ P : List Platform, (∃ (j : Nat) (h : j < P.length), firstPlat T K q P = (P[j].1, (toolsOn T P[j] q [] K).1, true, 0) ∧ (toolsOn T P[j] q [] K).2 = true ∧ ∀ (i : Nat) (h : i < P.length), i < j → (toolsOn T P[i] q [] K).2 = false) ∨
    (firstPlat T K q P = (⟨#[]⟩, [], false, 0) ∧ ∀ x ∈ P, (toolsOn T x q [] K).2 = false)
  | [] => .inr ⟨rfl, fun x hx => by cases hx⟩
  | p :: r => by
    rw [firstPlat]
    by_cases h : (toolsOn T p q [] K).2 = true
    · rw [if_pos h]
      exact .inl ⟨0, Nat.zero_lt_succ _, rfl, h, fun i _ hi => by omega⟩
    · rw [if_neg h]
      have h : (toolsOn T p q [] K).2 = false := by simpa using h
      rcases first_at K r with ⟨j, hj, e, h1, h2⟩ | ⟨e, h1⟩
      · refine .inl ⟨j + 1, Nat.succ_lt_succ hj, e, h1, fun i hi hij => ?_⟩
        cases i with
        | zero => exact h
        | succ i => exact h2 i (by simpa using hi) (by omega)
      · exact .inr ⟨e, fun x hx => by
          rcases List.mem_cons.1 hx with rfl | hx
          · exact h
          · exact h1 x hx⟩
theorem notAbove_eq (m n : ByteArray) : notAbove (some m) n = decide (¬ m.data.toList < n.data.toList) := sle_eq n m
theorem chkKinds_erase : ∀ (K : List ByteArray) (k : Nat) (prev : Option ByteArray), chkKinds prev K = 0 → chkKinds prev (K.eraseIdx k) = 0
  | [], k, prev, h => by simpa using h
  | p :: r, k, prev, h => by
    rw [chkKinds] at h
    split at h
    · cases h
    rename_i hw
    split at h
    · cases h
    rename_i hn
    cases k with
    | succ k =>
      rw [List.eraseIdx_cons_succ, chkKinds, if_neg hw, if_neg hn]
      exact chkKinds_erase r k _ h
    | zero =>
      rw [List.eraseIdx_cons_zero]
      cases r with
      | nil => cases prev <;> rfl
      | cons p2 r2 =>
        rw [chkKinds] at h ⊢
        split at h
        · cases h
        rename_i hw2
        split at h
        · cases h
        rename_i hn2
        rw [if_neg hw2]
        cases prev with
        | none => rw [if_neg (by simp [notAbove])]; exact h
        | some m =>
          rw [notAbove_eq] at hn hn2
          rw [notAbove_eq, if_neg]
          · exact h
          · simp only [decide_not, Bool.not_eq_true', decide_eq_false_iff_not, Classical.not_not, decide_eq_true_eq] at hn hn2 ⊢
            exact List.lt_trans hn hn2
theorem chkPlats_names : ∀ (P seen : List Platform), chkPlats seen P = 0 → (∀ a ∈ seen, ∀ x ∈ P, a.1 ≠ x.1) ∧ P.Pairwise fun a b => a.1 ≠ b.1
  | [], seen, _ => ⟨fun _ _ x hx => (by cases hx), List.Pairwise.nil⟩
  | p :: r, seen, h => by
    rw [chkPlats] at h
    split at h
    · cases h
    split at h
    · rename_i h1; exact absurd h h1
    split at h
    · cases h
    rename_i hs
    obtain ⟨h1, h2⟩ := chkPlats_names r (seen ++ [p]) h
    refine ⟨fun a ha x hx e => ?_, List.pairwise_cons.2 ⟨fun x hx => h1 p (by simp) x hx, h2⟩⟩
    rcases List.mem_cons.1 hx with rfl | hx
    · exact hs (List.any_eq_true.2 ⟨a, ha, decide_eq_true e⟩)
    · exact h1 a (List.mem_append_left _ ha) x hx e
theorem orErr_ok {n : Int} {r : Ans} (h : (orErr n r).2.2.2 = 0) : n = 0 ∧ orErr n r = r := by
  unfold orErr at h ⊢
  by_cases h0 : n = 0
  · rw [if_neg (by simp [h0])]; exact ⟨h0, rfl⟩
  · rw [if_pos h0] at h; exact absurd h h0
theorem orErr_bad {n : Int} {r : Ans} (hr : r.2.2.2 ≠ 0 → r.1 = ⟨#[]⟩ ∧ r.2.1 = []) (h : (orErr n r).2.2.2 ≠ 0) : (orErr n r).1 = ⟨#[]⟩ ∧ (orErr n r).2.1 = [] := by
  unfold orErr at h ⊢
  by_cases h0 : n ≠ 0
  · rw [if_pos h0]; exact ⟨rfl, rfl⟩
  · rw [if_neg h0] at h ⊢; exact hr h
theorem toolsAns_bad {P : List Platform} {K : List ByteArray} (h : (toolsAns P T K q).2.2.2 ≠ 0) : (toolsAns P T K q).1 = ⟨#[]⟩ ∧ (toolsAns P T K q).2.1 = [] := by
  refine orErr_bad (orErr_bad (orErr_bad (orErr_bad fun h => ?_))) h
  rcases first_at (T := T) (q := q) K P with ⟨j, hj, e, _⟩ | ⟨e, _⟩
  · rw [e] at h; exact absurd rfl h
  · rw [e]; exact ⟨rfl, rfl⟩
theorem tools_ok {P : List Platform} {K : List ByteArray} (h : (toolsAns P T K q).2.2.2 = 0) : chkPlatforms P = 0 ∧ kindsChk K = 0 ∧ toolsAns P T K q = firstPlat T K q P ∧ ∀ K', kindsChk K' = 0 → toolsAns P T K' q = firstPlat T K' q P := by
  unfold toolsAns at h
  obtain ⟨h1, e1⟩ := orErr_ok h
  rw [e1] at h
  obtain ⟨h2, e2⟩ := orErr_ok h
  rw [e2] at h
  obtain ⟨h3, e3⟩ := orErr_ok h
  rw [e3] at h
  obtain ⟨h4, e4⟩ := orErr_ok h
  have key : ∀ K', kindsChk K' = 0 → toolsAns P T K' q = firstPlat T K' q P := fun K' hk => by
    unfold toolsAns
    rw [h1, h2, hk, h4]; rfl
  exact ⟨h1, h3, key K h3, key⟩
/-- what comes of fewer kinds -/
theorem fewer {P : List Platform} {K : List ByteArray} (h : (toolsAns P T K q).2.2.2 = 0) (hok : (toolsAns P T K q).2.2.1 = true) {k : Nat} (hk : k < K.length) :
    K.length ≤ 30 ∧ ∃ (i j : Nat) (hi : i < P.length) (hj : j < P.length), i ≤ j ∧ (toolsAns P T K q).1 = P[j].1 ∧ (toolsAns P T K q).2.1.length = K.length ∧
      toolsAns P T (K.eraseIdx k) q = (P[i].1, (toolsOn T P[i] q [] (K.eraseIdx k)).1, true, 0) ∧ (toolsOn T P[i] q [] (K.eraseIdx k)).1.length = K.length - 1 ∧ P.Pairwise fun a b => a.1 ≠ b.1 := by
  obtain ⟨hp, hkk, e, key⟩ := tools_ok h
  have h30 : K.length ≤ 30 := by
    unfold kindsChk at hkk
    split at hkk
    · cases hkk
    · omega
  have hc0 : chkKinds none K = 0 := by
    unfold kindsChk at hkk
    rw [if_neg (by omega)] at hkk
    exact hkk
  have hel : (K.eraseIdx k).length = K.length - 1 := by rw [List.length_eraseIdx_of_lt hk]
  have hk' : kindsChk (K.eraseIdx k) = 0 := by
    unfold kindsChk
    rw [if_neg (by omega)]
    exact chkKinds_erase K k none hc0
  have hpw : P.Pairwise fun a b => a.1 ≠ b.1 := by
    unfold chkPlatforms at hp
    split at hp
    · cases hp
    · exact (chkPlats_names P [] hp).2
  rw [e] at hok ⊢
  rw [key _ hk']
  rcases first_at (T := T) (q := q) K P with ⟨j, hj, e1, t1, _⟩ | ⟨e1, _⟩
  · have t2 : (toolsOn T P[j] q [] (K.eraseIdx k)).2 = true := toolsOn_fewer (fun x hx => List.mem_of_mem_eraseIdx hx) t1
    rcases first_at (T := T) (q := q) (K.eraseIdx k) P with ⟨i, hi, e2, t3, t4⟩ | ⟨_, t4⟩
    · refine ⟨h30, i, j, hi, hj, ?_, by rw [e1], ?_, e2, ?_, hpw⟩
      · rcases Nat.lt_or_ge j i with c | c
        · have := t4 j hj c
          rw [t2] at this; cases this
        · exact c
      · rw [e1]
        have := toolsOn_full K [] t1
        simpa using this
      · have := toolsOn_full (K.eraseIdx k) [] t3
        rw [hel] at this
        simpa using this
    · have := t4 _ (List.getElem_mem hj)
      rw [t2] at this; cases this
  · rw [e1] at hok; cases hok
theorem irem_ok {a b : Int} (hb : 0 < b) : irem? Go.IntKind.i64 a b = some (Int.tmod a b) := by
  unfold irem?
  rw [if_neg (by omega)]
end Go.Proofs.YtocgdpnealaoeaaDoor.Ev

namespace Go.Proofs.YtocgdpnealaoeaaDoor.Ev
open Go Go.RowKit
set_option linter.unusedVariables false
theorem pairSz_of {L : List Pair} (h : WfS 32 (fun x : Pair => x.1.size ≤ 140737488351232 ∧ x.2.size ≤ 140737488351232) L) : PairSz L := ⟨h.2.1, h.2.2⟩
theorem strsSz_of {L : List ByteArray} (h : WfS 16 (fun s : ByteArray => s.size ≤ 140737488351232) L) : StrsSz L := ⟨h.2.1, h.2.2⟩
theorem Ultk.some {f : Nat → Option Bool} (h : Ultk f true) : ∃ k, f k = Option.some true := by
  obtain ⟨K, h⟩ := h
  exact ⟨K, h K (Nat.le_refl _)⟩
theorem ConfigToolsFewerKindsPure : ConfigToolsFewerKindsStated := by
  intro W K q n hW hK hq hn
  obtain ⟨a, b, c, d, e⟩ := W
  obtain ⟨ha, hb, hc, hd, he⟩ := hW
  dsimp only at ha hb hc hd he
  have hc : PlatSz c := ⟨hc.2.1, fun s hs => ⟨(hc.2.2 s hs).1, pairSz_of (hc.2.2 s hs).2⟩⟩
  have hd : ToolSz d := ⟨hd.2.1, fun s hs => ⟨(hd.2.2 s hs).1, (hd.2.2 s hs).2.1, pairSz_of (hd.2.2 s hs).2.2.1, pairSz_of (hd.2.2 s hs).2.2.2⟩⟩
  have hK := strsSz_of hK
  obtain ⟨h1, h2⟩ := hq
  have h2 := pairSz_of h2
  have lc := hc.1
  refine Ultk.some ?_
  unfold S4
  dsimp only
  refine Ult.bind (S12_spec c d K q hc hd hK h1 h2) (Ult.jn ?_)
  have hbad := toolsAns_bad (T := d) (q := q) (P := c) (K := K)
  have hfew := fun h0 h1 => fewer (T := d) (q := q) (P := c) (K := K) h0 h1 (k := ((n.tmod (len K) + len K).tmod (len K)).toNat)
  have haw : Ultk (fun k => bnd (S13 k ()) (fun (a4 : Bool) => some a4)) true := Ult.bind S13_spec Ult.ret
  generalize hr : toolsAns c d K q = r at hbad hfew
  obtain ⟨ra, rl, rok, rf⟩ := r
  dsimp only at hbad hfew ⊢
  -- the branch that ends early
  have early : Ultk (fun k => cnd (ieq rf 0) (bnd (S13 k ()) (fun (a4 : Bool) => some a4)) (cnd (seq ra (⟨#[]⟩ : ByteArray)) (cnd (ieq (len rl) 0) (bnd (S13 k ()) (fun (a4 : Bool) => some a4)) (some false)) (some false))) true := by
    by_cases h0 : rf = 0
    · exact Ult.yes (by rw [ieq_eq]; exact decide_eq_true h0) haw
    · obtain ⟨z1, z2⟩ := hbad h0
      exact Ult.no (by rw [ieq_eq]; exact decide_eq_false h0) (Ult.yes (by rw [seq_eq]; exact decide_eq_true z1) (Ult.yes (by rw [ieq_eq, z2]; rfl) haw))
  by_cases hf : rf = 0
  case neg => exact Ult.yes (by rw [ine_eq]; exact decide_eq_true hf) (Ult.yes rfl early)
  refine Ult.no (by rw [ine_eq]; exact decide_eq_false (by simp [hf])) ?_
  cases hok : rok with
  | false => exact Ult.yes rfl (Ult.yes rfl early)
  | true =>
  refine Ult.no rfl ?_
  by_cases hz : K.length = 0
  · exact Ult.yes (by rw [ieq_eq]; exact decide_eq_true (by unfold len; omega)) early
  refine Ult.no (by rw [ieq_eq]; exact decide_eq_false (by unfold len; omega)) ?_
  have hlen : len K = (K.length : Int) := rfl
  have hpos : (0 : Int) < len K := by rw [hlen]; omega
  have m1 := Int.tmod_lt_of_pos n hpos
  have m2 := Int.lt_tmod_of_pos n hpos
  have hK2 := hK.1
  have hadd : iadd Go.IntKind.i64 (n.tmod (len K)) (len K) = n.tmod (len K) + len K := iadd64 (by omega) (by omega)
  have m3 := Int.tmod_lt_of_pos (n.tmod (len K) + len K) hpos
  have m4 : 0 ≤ (n.tmod (len K) + len K).tmod (len K) := Int.tmod_nonneg _ (by omega)
  refine Ult.bindc (irem_ok hpos) ?_
  rw [hadd]
  refine Ult.bindc (irem_ok hpos) ?_
  generalize hk : (n.tmod (len K) + len K).tmod (len K) = kk at m3 m4 hfew
  obtain ⟨k, rfl⟩ : ∃ k : Nat, kk = (k : Int) := ⟨kk.toNat, (Int.toNat_of_nonneg m4).symm⟩
  rw [Int.toNat_natCast] at hfew
  have hkl : k < K.length := by omega
  obtain ⟨h30, i, j, hi, hj, hij, ea, el, eK, el', hpw⟩ := hfew hf hok hkl
  have hK' : StrsSz (K.eraseIdx k) := ⟨by rw [List.length_eraseIdx_of_lt hkl]; omega, fun s hs => hK.2 s (List.mem_of_mem_eraseIdx hs)⟩
  refine Ult.bind (a := K) ⟨0, fun _ _ => by unfold S6; exact if_pos (show K.length * 16 ≤ 140737488355328 by omega)⟩ ?_
  have hs1 : iadd Go.IntKind.i64 (k : Int) 1 = (k : Int) + 1 := iadd64 (by omega) (by omega)
  rw [hs1]
  refine Ult.bind (a := K.eraseIdx k) ⟨0, fun _ _ => by
    unfold S14
    show delF K (k : Int) ((k : Int) + 1) = _
    unfold delF
    rw [if_pos ⟨by omega, rfl, by omega, by omega⟩, Int.toNat_natCast]⟩ ?_
  refine Ult.bind (S12_spec c d (K.eraseIdx k) q hc hd hK' h1 h2) (Ult.jn ?_)
  rw [eK]
  dsimp only
  refine Ult.no rfl (Ult.no rfl ?_)
  have hsub : isub Go.IntKind.i64 (len rl) 1 = ((K.length - 1 : Nat) : Int) := by
    unfold len
    rw [el, isub64 (by omega) (by omega)]; omega
  refine Ult.no (by rw [ine_eq, hsub]; unfold len; rw [el']; simp) ?_
  refine Ult.bind S13_spec (Ult.no rfl ?_)
  refine Ult.forA (A := Unit) (fun _ => Nat.le_refl _) c.length (fun _ j => (j : Int)) (fun _ m => m ≤ i) (fun _ _ => true) () (Nat.zero_le _) fun _ m hm hI next => ?_
  have hlt : m < c.length := by omega
  rw [iltL]
  refine Ult.yes (decide_eq_true hlt) (Ult.bindc (at?_nat hlt) ?_)
  by_cases hb1 : c[m].1 = c[i].1
  · exact Ult.yes (by rw [seq_eq]; exact decide_eq_true hb1) Ult.ret
  refine Ult.no (by rw [seq_eq]; exact decide_eq_false hb1) ?_
  have hmi : m < i := by
    rcases Nat.lt_or_ge m i with z | z
    · exact z
    · have : m = i := by omega
      subst this
      exact absurd rfl hb1
  have hne : c[m].1 ≠ c[j].1 := List.pairwise_iff_getElem.1 hpw m j hlt hj (by omega)
  refine Ult.no (by rw [seq_eq, ea]; exact decide_eq_false hne) ?_
  rw [isucc hlt (by omega)]
  exact next () hlt (by omega)
end Go.Proofs.YtocgdpnealaoeaaDoor.Ev
