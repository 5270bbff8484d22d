/- CopyPieces, Together (the program's and the reference's), SamePieces of a list and itself. Conditions: the pieces are as many, and as long, as data can be. -/
import Derived.Test.YtjdfbpjbobmgdaaQTogether
import Derived.Test.YtjdfbpjbobmgdaaBase
namespace Go.Proofs.Ytjdfbpjbobmgdaa.PureTogether
open Go.RowKit Go.Proofs.Ytjdfbpjbobmgdaa.QTogether Go.Proofs.YtjdfbpjbobmgdaaW.PrintWords Go.Proofs.YtjdfbpjbobmgdaaW.PrintLast Go.Proofs.YtjdfbpjbobmgdaaW.PrintMore Go.Proofs.Ytjdfbpjbobmgdaa.Pure

theorem rdL_lt (l : List (List Int)) (i : Nat) (h : i < l.length) : rd_L2 l (i : Int) = l[i] := by simp [rd_L2, List.getD_eq_getElem?_getD, List.getElem?_eq_getElem h]
theorem copybytes (x : List Int) (h : x.length ≤ 140737488351232) : smithyardref1_CopyBytes.f x = some x := by
  unfold smithyardref1_CopyBytes.f
  rw [if_pos (by rw [List.length_nil]; omega), List.nil_append]
theorem copy_l0 (l : List (List Int)) (hl : l.length ≤ 5864062014634) (hx : ∀ x ∈ l, x.length ≤ 140737488351232) (d : Nat) : ∀ i : Nat, i + d = l.length → Ev (fun k => smithyardref1_CopyPieces.l0 k l (l.take i) i) l := by
  induction d with
  | zero =>
    intro i hi
    have e : l.take i = l := List.take_of_length_le (by omega)
    have c : ¬ (i : Int) < (l.length : Int) := by omega
    rw [e]
    refine Ev.to (Ev.now _) fun k => ?_
    simp only [smithyardref1_CopyPieces.l0]
    rw [if_neg c]
  | succ d ih =>
    intro i hi
    have hlt : i < l.length := by omega
    have c : (i : Int) < (l.length : Int) := by omega
    have hw : wrap64 ((i : Int) + 1) = ((i + 1 : Nat) : Int) := by rw [w64 (by omega) (by omega)]; rfl
    have ht : (l.take i).length < 5864062014805 := by rw [List.length_take]; omega
    refine Ev.to (ih (i + 1) (by omega)) fun k => ?_
    simp only [smithyardref1_CopyPieces.l0]
    rw [if_pos c, if_pos (Int.natCast_nonneg _), rdL_lt l i hlt, copybytes _ (hx _ (List.getElem_mem hlt)), Option.bind_some, if_pos ht, hw, List.take_append_getElem hlt]
theorem copy_ev (l : List (List Int)) (hl : l.length ≤ 5864062014634) (hx : ∀ x ∈ l, x.length ≤ 140737488351232) : Ev (fun k => smithyardref1_CopyPieces.f k l) l := by
  have := copy_l0 l hl hx l.length 0 (by omega)
  exact this
theorem beqB (x : List Int) : bytes_Equal.f x x = some true := by
  unfold bytes_Equal.f
  rw [beq_self_eq_true]
theorem same_l0 (l : List (List Int)) (hl : l.length ≤ 5864062014634) (d : Nat) : ∀ i : Nat, i + d = l.length → Ev (fun k => smithyardref1_SamePieces.l0 k l l i) true := by
  induction d with
  | zero =>
    intro i hi
    have c : ¬ (i : Int) < (l.length : Int) := by omega
    refine Ev.to (Ev.now _) fun k => ?_
    simp only [smithyardref1_SamePieces.l0]
    rw [if_neg c]
  | succ d ih =>
    intro i hi
    have c : (i : Int) < (l.length : Int) := by omega
    have hw : wrap64 ((i : Int) + 1) = ((i + 1 : Nat) : Int) := by rw [w64 (by omega) (by omega)]; rfl
    refine Ev.to (ih (i + 1) (by omega)) fun k => ?_
    simp only [smithyardref1_SamePieces.l0]
    rw [if_pos c, if_pos (Int.natCast_nonneg _), if_pos c, beqB, Option.bind_some, if_pos rfl, hw]
theorem same_ev (l : List (List Int)) (hl : l.length ≤ 5864062014634) : Ev (fun k => smithyardref1_SamePieces.f k l l) true := by
  unfold smithyardref1_SamePieces.f
  refine Ev.ite_pos rfl ?_
  have := same_l0 l hl l.length 0 (by omega)
  exact this

abbrev sz (l : List (List Int)) : Nat := slices_Concat_byte_byte.size l
theorem sz_append (a b : List (List Int)) : sz (a ++ b) = sz a + sz b := by
  induction a with
  | nil => simp [sz, slices_Concat_byte_byte.size]
  | cons x a ih =>
    simp only [sz, List.cons_append, slices_Concat_byte_byte.size] at ih ⊢
    rw [ih, Nat.add_assoc]
theorem sz_take (l : List (List Int)) (i : Nat) (h : i < l.length) : sz (l.take (i + 1)) = sz (l.take i) + l[i].length := by
  rw [← List.take_append_getElem h, sz_append]
  simp [sz, slices_Concat_byte_byte.size]
theorem sz_flatten (l : List (List Int)) : l.flatten.length = sz l := by
  induction l with
  | nil => simp [sz, slices_Concat_byte_byte.size]
  | cons x l ih =>
    simp only [sz, slices_Concat_byte_byte.size] at ih ⊢
    rw [List.flatten_cons, List.length_append, ih]
theorem sz_le (l : List (List Int)) (hx : ∀ x ∈ l, x.length ≤ 140737488351232) (i : Nat) : sz (l.take i) ≤ i * 140737488351232 := by
  induction i with
  | zero => simp [sz, slices_Concat_byte_byte.size]
  | succ i ih =>
    by_cases h : i < l.length
    · rw [sz_take l i h]
      have := hx _ (List.getElem_mem h)
      omega
    · rw [List.take_of_length_le (by omega)]
      rw [List.take_of_length_le (by omega)] at ih
      exact Nat.le_trans ih (Nat.mul_le_mul_right _ (Nat.le_succ i))
def togR (l : List (List Int)) : List Int × Int :=
  if (l.length : Int) > 20000 then ([], 2) else if (sz l : Int) > 2000000 then ([], 2) else (l.flatten, 0)
theorem sz_small (l : List (List Int)) (hl : l.length ≤ 20000) (hx : ∀ x ∈ l, x.length ≤ 140737488351232) (i : Nat) (h : i < l.length) :
    ((sz (l.take i) : Int)) + (l[i].length : Int) = ((sz (l.take (i + 1)) : Nat) : Int) ∧ ((sz (l.take (i + 1)) : Nat) : Int) ≤ 9223372036854775807 := by
  have h1 := sz_take l i h
  have h2 := sz_le l hx (i + 1)
  have h3 : (i + 1) * 140737488351232 ≤ 20000 * 140737488351232 := Nat.mul_le_mul_right _ (by omega)
  constructor
  · rw [h1, Int.natCast_add]
  · omega
theorem tog_l0 (l : List (List Int)) (hl : l.length ≤ 20000) (hx : ∀ x ∈ l, x.length ≤ 140737488351232) (d : Nat) : ∀ i : Nat, i + d = l.length → Ev (fun k => blob_Together.l0 k l ((sz (l.take i) : Nat) : Int) l (l.length : Int) i) (togR l) := by
  induction d with
  | zero =>
    intro i hi
    have e : l.take i = l := List.take_of_length_le (by omega)
    have c : ¬ (i : Int) < (l.length : Int) := by omega
    have c2 : ¬ (l.length : Int) > 20000 := by omega
    rw [e]
    refine Ev.to (Ev.now _) fun k => ?_
    simp only [blob_Together.l0, togR]
    rw [if_neg c, if_neg c2]
    by_cases h : (sz l : Int) > 2000000
    · rw [if_pos h, if_pos h]
    · rw [if_neg h, if_neg h]
      unfold slices_Concat_byte_byte.f
      rw [if_pos (show sz l < 140737488355328 by omega)]
      rfl
  | succ d ih =>
    intro i hi
    have hlt : i < l.length := by omega
    have c : (i : Int) < (l.length : Int) := by omega
    have hw : wrap64 ((i : Int) + 1) = ((i + 1 : Nat) : Int) := by rw [w64 (by omega) (by omega)]; rfl
    obtain ⟨h1, h2⟩ := sz_small l hl hx i hlt
    have hw2 : wrap64 (((sz (l.take i) : Nat) : Int) + (l[i].length : Int)) = ((sz (l.take (i + 1)) : Nat) : Int) := by
      rw [h1]
      exact w64 (Int.le_trans (by decide) (Int.natCast_nonneg _)) h2
    refine Ev.to (ih (i + 1) (by omega)) fun k => ?_
    simp only [blob_Together.l0]
    rw [if_pos c, if_pos (Int.natCast_nonneg _), if_pos c, rdL_lt l i hlt, hw, hw2]
theorem tog_ev (l : List (List Int)) (hx : ∀ x ∈ l, x.length ≤ 140737488351232) : Ev (fun k => blob_Together.f k l) (togR l) := by
  unfold blob_Together.f
  by_cases h : (l.length : Int) > 20000
  · have e : togR l = ([], 2) := if_pos h
    rw [e]
    exact Ev.ite_pos h (Ev.now _)
  · have := tog_l0 l (by omega) hx l.length 0 (by omega)
    rw [List.take_zero] at this
    exact Ev.ite_neg h this
theorem reftog_l1 (l : List (List Int)) (hl : l.length ≤ 20000) (hs : sz l ≤ 2000000) (d : Nat) : ∀ i : Nat, i + d = l.length → Ev (fun k => smithyardref1_Together.l1 k l (l.take i).flatten i) (l.flatten, 0) := by
  induction d with
  | zero =>
    intro i hi
    have e : l.take i = l := List.take_of_length_le (by omega)
    have c : ¬ (i : Int) < (l.length : Int) := by omega
    rw [e]
    refine Ev.to (Ev.now _) fun k => ?_
    simp only [smithyardref1_Together.l1]
    rw [if_neg c]
  | succ d ih =>
    intro i hi
    have hlt : i < l.length := by omega
    have c : (i : Int) < (l.length : Int) := by omega
    have hw : wrap64 ((i : Int) + 1) = ((i + 1 : Nat) : Int) := by rw [w64 (by omega) (by omega)]; rfl
    have e : (l.take i).flatten ++ l[i] = (l.take (i + 1)).flatten := by
      rw [← List.take_append_getElem hlt, List.flatten_append]
      simp
    have hle : (l.take i).flatten.length + l[i].length < 140737488355328 := by
      have h1 := sz_take l i hlt
      have h2 : sz (l.take (i + 1)) ≤ sz l := by
        have := sz_append (l.take (i + 1)) (l.drop (i + 1))
        rw [List.take_append_drop] at this
        omega
      rw [sz_flatten]
      omega
    refine Ev.to (ih (i + 1) (by omega)) fun k => ?_
    simp only [smithyardref1_Together.l1]
    rw [if_pos c, if_pos (Int.natCast_nonneg _), rdL_lt l i hlt, if_pos hle, e, hw]
theorem reftog_l0 (l : List (List Int)) (hl : l.length ≤ 20000) (hx : ∀ x ∈ l, x.length ≤ 140737488351232) (d : Nat) : ∀ i : Nat, i + d = l.length → Ev (fun k => smithyardref1_Together.l0 k l ((sz (l.take i) : Nat) : Int) i) (togR l) := by
  induction d with
  | zero =>
    intro i hi
    have e : l.take i = l := List.take_of_length_le (by omega)
    have c : ¬ (i : Int) < (l.length : Int) := by omega
    have c2 : ¬ (l.length : Int) > 20000 := by omega
    rw [e]
    by_cases h : (sz l : Int) > 2000000
    · refine Ev.to (Ev.now _) fun k => ?_
      simp only [smithyardref1_Together.l0, togR]
      rw [if_neg c, if_neg c2, if_pos h, if_pos h]
    · have k1 := reftog_l1 l hl (by omega) l.length 0 (by omega)
      have e2 : togR l = (l.flatten, 0) := by
        unfold togR
        rw [if_neg c2, if_neg h]
      rw [e2]
      refine Ev.to k1 fun k => ?_
      simp only [smithyardref1_Together.l0]
      rw [if_neg c, if_neg h]
      rfl
  | succ d ih =>
    intro i hi
    have hlt : i < l.length := by omega
    have c : (i : Int) < (l.length : Int) := by omega
    have hw : wrap64 ((i : Int) + 1) = ((i + 1 : Nat) : Int) := by rw [w64 (by omega) (by omega)]; rfl
    obtain ⟨h1, h2⟩ := sz_small l hl hx i hlt
    have hw2 : wrap64 (((sz (l.take i) : Nat) : Int) + (l[i].length : Int)) = ((sz (l.take (i + 1)) : Nat) : Int) := by
      rw [h1]
      exact w64 (Int.le_trans (by decide) (Int.natCast_nonneg _)) h2
    refine Ev.to (ih (i + 1) (by omega)) fun k => ?_
    simp only [smithyardref1_Together.l0]
    rw [if_pos c, if_pos (Int.natCast_nonneg _), rdL_lt l i hlt, hw, hw2]
theorem reftog_ev (l : List (List Int)) (hx : ∀ x ∈ l, x.length ≤ 140737488351232) : Ev (fun k => smithyardref1_Together.f k l) (togR l) := by
  unfold smithyardref1_Together.f
  by_cases h : (l.length : Int) > 20000
  · have e : togR l = ([], 2) := if_pos h
    rw [e]
    exact Ev.ite_pos h (Ev.now _)
  · have := reftog_l0 l (by omega) hx l.length 0 (by omega)
    rw [List.take_zero] at this
    exact Ev.ite_neg h this

end Go.Proofs.Ytjdfbpjbobmgdaa.PureTogether
