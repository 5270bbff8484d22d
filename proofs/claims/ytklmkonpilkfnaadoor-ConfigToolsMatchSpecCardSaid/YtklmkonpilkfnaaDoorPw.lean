/- Plain lemmas: loops over an index, strings in order (this session's own). No condition. -/
import Derived.Test.YtklmkonpilkfnaaDoorPv
import Derived.Test.YtklmkonpilkfnaaDoorEvK
import Derived.Sort.Walk0
namespace Go.Proofs.YtklmkonpilkfnaaDoor.Ev
open Go Go.RowKit
set_option linter.unusedVariables false
set_option linter.unusedSimpArgs false
variable {ι R X A α β : Type} {l : ι → Nat}

/-- a loop by an index and what is gathered; 'res': what comes of it from there on -/
theorem Ult.forA {st : ι → (X → Option R) → X → Option R} {k : ι → Nat} (hk : ∀ i, l i ≤ k i) (n : Nat) (mk : A → Nat → X) (I : A → Nat → Prop) (res : A → Nat → R) (a0 : A) (h0 : I a0 0)
    (h : ∀ a j, j ≤ n → I a j → (∀ a', j < n → I a' (j + 1) → Ult (lp l) (fun p => loopN p.2 (st p.1) (mk a' (j + 1))) (res a' (j + 1))) → Ult (lp l) (fun p => st p.1 (loopN p.2 (st p.1)) (mk a j)) (res a j)) :
    Ult l (fun i => loopN (k i) (st i) (mk a0 0)) (res a0 0) := by
  have key : ∀ (d j : Nat) (a : A), n - j = d → j ≤ n → I a j → Ult (lp l) (fun p => loopN p.2 (st p.1) (mk a j)) (res a j) := by
    intro d
    induction d with
    | zero => intro j a hd hj hI; exact Ult.round (h a j hj hI fun a' hlt _ => by omega)
    | succ d ih => intro j a hd hj hI; exact Ult.round (h a j hj hI fun a' hlt hI' => ih (j + 1) a' (by omega) (by omega) hI')
  exact Ult.loop hk (key n 0 a0 (by omega) (Nat.zero_le _) h0)
theorem Ult.forI {st : ι → (Int → Option R) → Int → Option R} {k : ι → Nat} (hk : ∀ i, l i ≤ k i) (n : Nat) (res : Nat → R)
    (h : ∀ j, j ≤ n → (j < n → Ult (lp l) (fun p => loopN p.2 (st p.1) ((j + 1 : Nat) : Int)) (res (j + 1))) → Ult (lp l) (fun p => st p.1 (loopN p.2 (st p.1)) (j : Int)) (res j)) :
    Ult l (fun i => loopN (k i) (st i) 0) (res 0) :=
  Ult.forA (A := Unit) hk n (fun _ j => (j : Int)) (fun _ _ => True) (fun _ j => res j) () trivial fun _ j hj _ hn => h j hj fun hlt => hn () hlt trivial
theorem Ult.jn {f : ι → (X → Option R) → Option R} {g : ι → X → Option R} {r : R} (h : Ult l (fun i => f i (g i)) r) : Ult l (fun i => jn (f i) (g i)) r := h
theorem Ult.eq {f : ι → Option R} {r r' : R} (h : Ult l f r) (e : r = r') : Ult l f r' := e ▸ h
theorem Ult.iteS {c : Bool} {f g : ι → Option R} {r r' : R} (h : c = true → Ult l f r) (k : c = false → Ult l g r') : Ult l (fun i => cnd c (f i) (g i)) (if c then r else r') := by
  cases c
  · exact Ult.no rfl (k rfl)
  · exact Ult.yes rfl (h rfl)
theorem Ult.ifS {c : Bool} {p : Prop} [Decidable p] (e : c = decide p) {f g : ι → Option R} {r r' : R} (h : p → Ult l f r) (k : ¬ p → Ult l g r') : Ult l (fun i => cnd c (f i) (g i)) (if p then r else r') := by
  subst e
  by_cases hp : p
  · rw [if_pos hp]; exact Ult.yes (decide_eq_true hp) (h hp)
  · rw [if_neg hp]; exact Ult.no (decide_eq_false hp) (k hp)

/-! ### operations -/
theorem seq_eq (a b : ByteArray) : seq a b = decide (a = b) := by
  unfold seq
  by_cases h : a = b
  · subst h; simp
  · rw [decide_eq_false h, beq_eq_false_iff_ne]
    intro e
    refine h ?_
    rw [ByteArray.toList_eq, ByteArray.toList_eq] at e
    obtain ⟨⟨x⟩⟩ := a
    obtain ⟨⟨y⟩⟩ := b
    simpa using e
theorem sne_eq (a b : ByteArray) : sne a b = decide (a ≠ b) := by
  have := seq_eq a b
  unfold seq at this
  unfold sne
  rw [this]
  by_cases h : a = b <;> simp [h]
theorem ieq_eq (a b : Int) : ieq a b = decide (a = b) := by
  unfold ieq
  by_cases h : a = b <;> simp [h]
theorem ine_eq (a b : Int) : ine a b = decide (a ≠ b) := by
  unfold ine
  by_cases h : a = b <;> simp [h]
theorem igt_eq (a b : Int) : igt a b = decide (b < a) := rfl
theorem ige_eq (a b : Int) : ige a b = decide (b ≤ a) := rfl
theorem ilt_eq (a b : Int) : ilt a b = decide (a < b) := rfl
theorem ile_eq (a b : Int) : ile a b = decide (a ≤ b) := rfl
theorem bnot_eq (a : Bool) : bnot a = !a := rfl
theorem iltL (j : Nat) (l : List α) : ilt (j : Int) (len l) = decide (j < l.length) := by
  unfold ilt len
  by_cases h : j < l.length
  · rw [decide_eq_true h, decide_eq_true (by omega)]
  · rw [decide_eq_false h, decide_eq_false (by omega)]
theorem igt0 (j : Nat) : igt (j : Int) 0 = decide (0 < j) := by
  unfold igt
  by_cases h : 0 < j
  · rw [decide_eq_true h, decide_eq_true (by omega)]
  · rw [decide_eq_false h, decide_eq_false (by omega)]
theorem isucc {j n : Nat} (h : j < n) (hn : n ≤ 9223372036854775807) : iadd .i64 (j : Int) 1 = ((j + 1 : Nat) : Int) := by rw [iadd64 (by omega) (by omega)]; rfl
theorem ipred {j n : Nat} (h0 : 0 < j) (h : j ≤ n) (hn : n ≤ 9223372036854775807) : isub .i64 (j : Int) 1 = ((j - 1 : Nat) : Int) := by rw [isub64 (by omega) (by omega)]; omega
theorem app?_ok {b : Nat} {l r : List α} (h : (l.length + r.length) * (max b 1) ≤ 140737488355328) : app? b l r = some (l ++ r) := by unfold app?; rw [if_pos h]
theorem cat?_ok {a b : ByteArray} (h : a.size + b.size ≤ 9223372036854775807) : cat? a b = some (a ++ b) := by unfold cat?; rw [if_pos h]
theorem cut?_take {l : List α} {j : Nat} (h : j ≤ l.length) : cut? l 0 (j : Int) = some (l.take j) := by
  unfold cut?
  rw [if_pos ⟨Int.le_refl _, by omega, by omega⟩]
  simp
theorem kbeq_pair (a b : ByteArray × ByteArray) : kbeq (.agg (.pair .str .str)) a b = decide (a = b) := by
  show (seq a.1 b.1 && seq a.2 b.2) = _
  rw [seq_eq, seq_eq]
  by_cases h1 : a.1 = b.1 <;> by_cases h2 : a.2 = b.2 <;> simp [h1, h2, Prod.ext_iff]
theorem drop_cons {l : List α} {j : Nat} (h : j < l.length) : l.drop j = l[j] :: l.drop (j + 1) := List.drop_eq_getElem_cons h

/-! ### strings in order -/
def lt (a b : ByteArray) : Prop := a.data.toList < b.data.toList
theorem slt_eq (a b : ByteArray) : slt a b = decide (a.data.toList < b.data.toList) := by
  unfold slt
  rw [ByteArray.toList_eq, ByteArray.toList_eq]
  exact bytesLess_eq _ _
theorem bytes_ext {a b : ByteArray} (h : a.data.toList = b.data.toList) : a = b := by
  obtain ⟨⟨x⟩⟩ := a
  obtain ⟨⟨y⟩⟩ := b
  simpa using h
theorem sle_eq (a b : ByteArray) : sle a b = decide (¬ b.data.toList < a.data.toList) := by
  have h : sle a b = (Op.bytesLess a.toList b.toList || a.toList == b.toList) := rfl
  rw [h, ByteArray.toList_eq, ByteArray.toList_eq, bytesLess_eq]
  by_cases h1 : a.data.toList < b.data.toList
  · simp [h1, List.lt_asymm h1]
  · by_cases h2 : a.data.toList = b.data.toList
    · rw [h2]; simp [List.lt_irrefl]
    · have h3 : b.data.toList < a.data.toList := by
        rcases List.le_total a.data.toList b.data.toList with q | q
        · rcases List.le_iff_lt_or_eq.1 q with q | q
          · exact absurd q h1
          · exact absurd q h2
        · rcases List.le_iff_lt_or_eq.1 q with q | q
          · exact q
          · exact absurd q.symm h2
      have h4 : ¬ a.data = b.data := fun e => h2 (by rw [e])
      simp [h1, h4, h3]
end Go.Proofs.YtklmkonpilkfnaaDoor.Ev
