/- Laws of Config: searches, settings, configurations (this session's own). No condition but those in the statements. -/
import Derived.Test.YtklmkonpilkfnaaDoorPcA
namespace Go.Proofs.YtklmkonpilkfnaaDoor.Ev
open Go Go.RowKit
set_option linter.unusedVariables false
set_option linter.unusedSimpArgs false
variable {ι : Type} {l : ι → Nat} {α : Type}
abbrev Setting : Type := ByteArray × List ByteArray
abbrev Pair : Type := ByteArray × ByteArray

/-! ### searches -/
/-- the place of the first that is wanted, or -1 -/
def idxF (p : α → Bool) : Nat → List α → Int
  | _, [] => -1
  | j, a :: r => if p a = true then (j : Int) else idxF p (j + 1) r
theorem idxF_cases (p : α → Bool) : ∀ (j : Nat) (L : List α), (idxF p j L = -1 ∧ L.find? p = none) ∨ ∃ (i : Nat) (h : i < L.length), idxF p j L = ((j + i : Nat) : Int) ∧ L.find? p = some L[i] ∧ p L[i] = true
  | j, [] => .inl ⟨rfl, rfl⟩
  | j, a :: r => by
    cases h : p a with
    | true => exact .inr ⟨0, by simp, by simp [idxF, h], by simp [h], by simpa using h⟩
    | false =>
      rcases idxF_cases p (j + 1) r with ⟨h1, h2⟩ | ⟨i, hi, h1, h2, h3⟩
      · exact .inl ⟨by simp [idxF, h, h1], by simp [h, h2]⟩
      · exact .inr ⟨i + 1, by simpa using hi, by simp only [idxF, h, Bool.false_eq_true, if_false, h1]; congr 1; omega, by simp [h, h2], by simpa using h3⟩
theorem idxF_neg {p : α → Bool} {L : List α} : idxF p 0 L < 0 ↔ L.find? p = none := by
  rcases idxF_cases p 0 L with ⟨h1, h2⟩ | ⟨i, hi, h1, h2, h3⟩
  · simp [h1, h2]
  · rw [h1, h2]
    constructor
    · intro h; omega
    · intro h; cases h
theorem idxF_at {p : α → Bool} {L : List α} {a : α} (h : L.find? p = some a) : at? L (idxF p 0 L) = some a ∧ 0 ≤ idxF p 0 L := by
  rcases idxF_cases p 0 L with ⟨h1, h2⟩ | ⟨i, hi, h1, h2, h3⟩
  · rw [h2] at h; cases h
  · rw [h1, Nat.zero_add, at?_nat hi, ← h2, h]
    exact ⟨rfl, Int.natCast_nonneg _⟩
theorem len_big {b : Nat} {L : List α} (h : L.length * b ≤ 140737488351232) (hb : 0 < b) : L.length ≤ 140737488351232 := by
  have : L.length * 1 ≤ L.length * b := Nat.mul_le_mul_left _ hb
  omega
theorem S99_spec (L : List ByteArray) (x : ByteArray) (hL : L.length ≤ 9223372036854775807) : Ultk (fun k => S99 k (L, x, ())) (idxF (fun a => decide (x = a)) 0 L) := by
  unfold S99
  refine (Ult.forI (fun _ => Nat.le_refl _) L.length (fun j => idxF (fun a => decide (x = a)) j (L.drop j)) fun j hj next => ?_).eq (by rw [List.drop_zero])
  dsimp only
  rw [iltL]
  by_cases hlt' : ¬ j < L.length
  · refine Ult.no (decide_eq_false hlt') (Ult.ret.eq ?_)
    rw [List.drop_eq_nil_of_le (by omega)]; rfl
  have hlt : j < L.length := Decidable.not_not.1 hlt'
  refine Ult.yes (decide_eq_true hlt) (Ult.bindc (at?_nat hlt) ?_)
  rw [drop_cons hlt, idxF, isucc hlt hL]
  exact Ult.ifS (by rw [seq_eq]; simp) (fun h => Ult.ret) (fun h => next hlt)
theorem any_mem (L : List ByteArray) (x : ByteArray) : (L.find? (fun a => decide (x = a)) = none) ↔ x ∉ L := by
  rw [List.find?_eq_none]
  constructor
  · intro h hx; exact h x hx (by simp)
  · intro h a ha e
    have e := of_decide_eq_true e
    exact h (e ▸ ha)
def memB (L : List ByteArray) (x : ByteArray) : Bool := L.any fun a => decide (x = a)
theorem memB_iff {L : List ByteArray} {x : ByteArray} : memB L x = true ↔ x ∈ L := by
  unfold memB
  rw [List.any_eq_true]
  exact ⟨fun ⟨a, ha, e⟩ => of_decide_eq_true e ▸ ha, fun h => ⟨x, h, decide_eq_true rfl⟩⟩
theorem S61_spec (L : List ByteArray) (x : ByteArray) (hL : L.length ≤ 9223372036854775807) : Ultk (fun k => S61 k (L, x, ())) (memB L x) := by
  unfold S61
  refine Ult.bind (S99_spec L x hL) (Ult.ret.eq ?_)
  rw [ige_eq]
  by_cases h : x ∈ L
  · rw [memB_iff.2 h]
    refine decide_eq_true ?_
    rcases Int.lt_or_le (idxF (fun a => decide (x = a)) 0 L) 0 with q | q
    · exact absurd h ((any_mem _ _).1 (idxF_neg.1 q))
    · exact q
  · have h' : memB L x = false := by
      cases hb : memB L x with
      | false => rfl
      | true => exact absurd (memB_iff.1 hb) h
    rw [h']
    have := idxF_neg.2 ((any_mem L x).2 h)
    exact decide_eq_false (by omega)
/-- slices.IndexFunc at settings -/
theorem S95_spec {kk : ι → Nat} (hk : ∀ i, l i ≤ kk i) (L : List Setting) (f : ι → Setting → Option Bool) (p : Setting → Bool) (hf : ∀ a, Ult l (fun i => f i a) (p a)) (hL : L.length ≤ 9223372036854775807) :
    Ult l (fun i => S95 (kk i) (L, f i, ())) (idxF p 0 L) := by
  unfold S95
  refine (Ult.forI hk L.length (fun j => idxF p j (L.drop j)) fun j hj next => ?_).eq (by rw [List.drop_zero])
  dsimp only
  rw [iltL]
  by_cases hlt' : ¬ j < L.length
  · refine Ult.no (decide_eq_false hlt') (Ult.ret.eq ?_)
    rw [List.drop_eq_nil_of_le (by omega)]; rfl
  have hlt : j < L.length := Decidable.not_not.1 hlt'
  refine Ult.yes (decide_eq_true hlt) (Ult.bindc (at?_nat hlt) (Ult.bind (hf _).lift ?_))
  rw [drop_cons hlt, idxF, isucc hlt hL]
  exact Ult.ifS (by simp) (fun h => Ult.ret) (fun h => next hlt)
/-- the first setting of a name -/
def look (L : List (ByteArray × α)) (n : ByteArray) : Option (ByteArray × α) := L.find? fun s => decide (s.1 = n)
theorem look_name {L : List (ByteArray × α)} {n : ByteArray} {s : ByteArray × α} (h : look L n = some s) : s ∈ L ∧ s.1 = n := by
  unfold look at h
  exact ⟨List.mem_of_find?_eq_some h, of_decide_eq_true (List.find?_some (p := fun s : ByteArray × α => decide (s.1 = n)) h)⟩
def idxN (L : List (ByteArray × α)) (n : ByteArray) : Int := idxF (fun s => decide (s.1 = n)) 0 L
theorem S56_spec (L : List Setting) (n : ByteArray) (hL : L.length ≤ 9223372036854775807) : Ultk (fun k => S56 k (L, n, ())) (idxN L n) := by
  unfold S56
  have h := S95_spec (l := fun k => k) (fun _ => Nat.le_refl _) L (fun k a => S96 k (a, n, ())) (fun s => decide (s.1 = n)) (fun a => Ult.ret.eq (seq_eq _ _)) hL
  exact Ult.bind h Ult.ret
def lookS (L : List Setting) (n : ByteArray) : Setting × Bool := match look L n with
  | some s => (s, true)
  | none => ((⟨#[]⟩, []), false)
theorem S58_spec (L : List Setting) (n : ByteArray) (hL : L.length ≤ 9223372036854775807) : Ultk (fun k => S58 k (L, n, ())) (lookS L n) := by
  unfold S58
  refine (Ult.forA (A := Unit) (fun _ => Nat.le_refl _) L.length (fun _ j => ((j : Int), (⟨#[]⟩ : ByteArray), ([] : List ByteArray))) (fun _ _ => True) (fun _ j => lookS (L.drop j) n) () trivial fun _ j hj _ next => ?_).eq (by rw [List.drop_zero])
  dsimp only
  rw [iltL]
  by_cases hlt' : ¬ j < L.length
  · refine Ult.no (decide_eq_false hlt') (Ult.ret.eq ?_)
    rw [List.drop_eq_nil_of_le (by omega)]; rfl
  have hlt : j < L.length := Decidable.not_not.1 hlt'
  refine Ult.yes (decide_eq_true hlt) (Ult.bindc (at?_nat hlt) ?_)
  have e : lookS (L.drop j) n = if L[j].1 = n then (L[j], true) else lookS (L.drop (j + 1)) n := by
    rw [drop_cons hlt]
    unfold lookS look
    by_cases h : L[j].1 = n
    · rw [if_pos h, List.find?_cons_of_pos (by simpa using h)]
    · rw [if_neg h, List.find?_cons_of_neg (by simpa using h)]
  rw [e, isucc hlt hL]
  exact Ult.ifS (seq_eq _ _) (fun h => Ult.ret) (fun h => next () hlt trivial)
def lookV (L : List Pair) (n : ByteArray) : ByteArray × Bool := match look L n with
  | some s => (s.2, true)
  | none => (⟨#[]⟩, false)
theorem S97_spec (L : List Pair) (n : ByteArray) (hL : L.length ≤ 9223372036854775807) : Ultk (fun k => S97 k (L, n, ())) (lookV L n) := by
  unfold S97
  refine (Ult.forI (fun _ => Nat.le_refl _) L.length (fun j => lookV (L.drop j) n) fun j hj next => ?_).eq (by rw [List.drop_zero])
  dsimp only
  rw [iltL]
  by_cases hlt' : ¬ j < L.length
  · refine Ult.no (decide_eq_false hlt') (Ult.ret.eq ?_)
    rw [List.drop_eq_nil_of_le (by omega)]; rfl
  have hlt : j < L.length := Decidable.not_not.1 hlt'
  refine Ult.yes (decide_eq_true hlt) (Ult.bindc (at?_nat hlt) ?_)
  have e : lookV (L.drop j) n = if L[j].1 = n then (L[j].2, true) else lookV (L.drop (j + 1)) n := by
    rw [drop_cons hlt]
    unfold lookV look
    by_cases h : L[j].1 = n
    · rw [if_pos h, List.find?_cons_of_pos (by simpa using h)]
    · rw [if_neg h, List.find?_cons_of_neg (by simpa using h)]
  rw [e, isucc hlt hL]
  exact Ult.ifS (seq_eq _ _) (fun h => Ult.ret) (fun h => next hlt)

/-! ### settings -/
/-- not above the one before -/
def notAbove (prev : Option ByteArray) (n : ByteArray) : Bool := match prev with
  | none => false
  | some m => sle n m
def chkVals : List ByteArray → List ByteArray → Int
  | _, [] => 0
  | seen, v :: r => if isWord v = false then 5 else if memB seen v = true then 7 else chkVals (seen ++ [v]) r
def chkSets : Option ByteArray → List Setting → Int
  | _, [] => 0
  | prev, s :: r => if isWord s.1 = false then 5 else if s.2 = [] then 9 else if 20 < s.2.length then 2 else if chkVals [] s.2 ≠ 0 then chkVals [] s.2 else if notAbove prev s.1 = true then 8 else chkSets (some s.1) r
def chkSettings (L : List Setting) : Int := if 30 < L.length then 2 else chkSets none L
def prevOf (L : List (ByteArray × α)) (j : Nat) : Option ByteArray := if h : 0 < j ∧ j - 1 < L.length then some (L[j - 1]'h.2).1 else none
theorem prevOf_zero (L : List (ByteArray × α)) : prevOf L 0 = none := rfl
theorem prevOf_succ {L : List (ByteArray × α)} {j : Nat} (h : j < L.length) : prevOf L (j + 1) = some L[j].1 := by unfold prevOf; rw [dif_pos ⟨Nat.succ_pos _, by simpa using h⟩]; simp
/-- sizes of settings as they come -/
def SetSz (L : List Setting) : Prop := L.length * 40 ≤ 140737488351232 ∧ ∀ s ∈ L, s.1.size ≤ 140737488351232 ∧ s.2.length * 16 ≤ 140737488351232 ∧ ∀ v ∈ s.2, v.size ≤ 140737488351232
theorem SetSz.len {L : List Setting} (h : SetSz L) : L.length ≤ 140737488351232 := len_big h.1 (by omega)
def PairSz (L : List Pair) : Prop := L.length * 32 ≤ 140737488351232 ∧ ∀ s ∈ L, s.1.size ≤ 140737488351232 ∧ s.2.size ≤ 140737488351232
theorem PairSz.len {L : List Pair} (h : PairSz L) : L.length ≤ 140737488351232 := len_big h.1 (by omega)

end Go.Proofs.YtklmkonpilkfnaaDoor.Ev
