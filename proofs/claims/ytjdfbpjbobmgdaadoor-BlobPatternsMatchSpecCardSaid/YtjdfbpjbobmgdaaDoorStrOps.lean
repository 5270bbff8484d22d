/- '>', '<=', '>=' of two strings, as '<' the other way round: for the walk. No conditions. -/
import Derived.Laws.Strings
namespace Go.Proofs.YtjdfbpjbobmgdaaDoor.StrOps
open Go

theorem less_irr : ∀ x : List UInt8, Op.bytesLess x x = false
  | [] => rfl
  | a :: x => by simp [Op.bytesLess, less_irr x]
theorem less_asym : ∀ x y : List UInt8, Op.bytesLess x y = true → Op.bytesLess y x = false
  | _, [], h => by simp [Op.bytesLess] at h
  | [], _ :: _, _ => by simp [Op.bytesLess]
  | a :: x, b :: y, h => by
    simp only [Op.bytesLess, Bool.or_eq_true, decide_eq_true_eq, Bool.and_eq_true, beq_iff_eq] at h
    simp only [Op.bytesLess, Bool.or_eq_false_iff, decide_eq_false_iff_not, Bool.and_eq_false_iff]
    rcases h with h | ⟨rfl, h⟩
    · exact ⟨fun h' => absurd (UInt8.lt_trans h h') (UInt8.lt_irrefl _), .inl (by rw [beq_eq_false_iff_ne]; rintro rfl; exact UInt8.lt_irrefl _ h)⟩
    · exact ⟨UInt8.lt_irrefl _, .inr (less_asym x y h)⟩
theorem less_total : ∀ x y : List UInt8, Op.bytesLess x y = false → Op.bytesLess y x = false → x = y
  | [], [], _, _ => rfl
  | [], _ :: _, h, _ => by simp [Op.bytesLess] at h
  | _ :: _, [], _, h => by simp [Op.bytesLess] at h
  | a :: x, b :: y, h, h' => by
    simp only [Op.bytesLess, Bool.or_eq_false_iff, decide_eq_false_iff_not, Bool.and_eq_false_iff] at h h'
    have hab : a = b := by
      apply UInt8.le_antisymm
      · exact UInt8.not_lt.1 h'.1
      · exact UInt8.not_lt.1 h.1
    subst hab
    have h1 : Op.bytesLess x y = false := by rcases h.2 with h2 | h2; simp at h2; exact h2
    have h2 : Op.bytesLess y x = false := by rcases h'.2 with h2 | h2; simp at h2; exact h2
    rw [less_total x y h1 h2]
theorem gtr_eq (x y : List UInt8) : (!(Op.bytesLess x y || x == y)) = Op.bytesLess y x := by
  cases h : Op.bytesLess x y with
  | true => simp [less_asym x y h]
  | false =>
    cases h' : Op.bytesLess y x with
    | true =>
      have : (x == y) = false := by
        rw [beq_eq_false_iff_ne]
        rintro rfl
        rw [h] at h'
        cases h'
      simp [this]
    | false =>
      have := less_total x y h h'
      simp [this]
theorem leq_eq (x y : List UInt8) : (Op.bytesLess x y || x == y) = !(Op.bytesLess y x) := by have h := gtr_eq x y; rw [← h, Bool.not_not]
theorem str_gtr (t : TypeId) (a b : ByteArray) : binOp .gtr t (.string a) (.string b) = pure (.bool (Op.bytesLess b.toList a.toList)) := by rw [← gtr_eq]; simp [binOp, Op.stringOp]
theorem str_leq (t : TypeId) (a b : ByteArray) : binOp .leq t (.string a) (.string b) = pure (.bool !(Op.bytesLess b.toList a.toList)) := by rw [← leq_eq]; simp [binOp, Op.stringOp]
theorem str_geq (t : TypeId) (a b : ByteArray) : binOp .geq t (.string a) (.string b) = pure (.bool !(Op.bytesLess a.toList b.toList)) := by simp [binOp, Op.stringOp]

end Go.Proofs.YtjdfbpjbobmgdaaDoor.StrOps
