/- Whether a part of a path fits a part of a pattern: the program's and the reference's tables compute one plain function. Conditions: the lengths are as strings' lengths can be. -/
import Derived.Test.YtjdfbpjbobmgdaaDoorQPat
import Derived.Test.YtjdfbpjbobmgdaaDoorBase
namespace Go.Proofs.YtjdfbpjbobmgdaaDoor.PurePat
open Go.RowKit Go.Proofs.YtjdfbpjbobmgdaaDoor.QPat Go.Proofs.YtjdfbpjbobmgdaaDoorW.PrintWords Go.Proofs.YtjdfbpjbobmgdaaDoorW.PrintLast Go.Proofs.YtjdfbpjbobmgdaaDoorW.PrintMore Go.Proofs.YtjdfbpjbobmgdaaDoor.Pure

/-- A row of a table whose first k places are told. -/
def part (t : Nat → Bool) (n k : Nat) : List Bool := (List.range n).map fun j => decide (j < k) && t j
theorem part_len (t : Nat → Bool) (n k : Nat) : (part t n k).length = n := by simp [part]
theorem part_set (t : Nat → Bool) (n k : Nat) : (part t n k).set k (t k) = part t n (k + 1) := by
  refine List.ext_getElem (by simp [part]) fun j h1 h2 => ?_
  rw [List.getElem_set]
  simp only [part, List.getElem_map, List.getElem_range]
  by_cases h : k = j
  · subst h
    simp
  · rw [if_neg h]
    by_cases h3 : j < k
    · simp [h3, Nat.lt_succ_of_lt h3]
    · have h4 : ¬ j < k + 1 := by omega
      simp [h3, h4]
theorem part_zero (t : Nat → Bool) (n : Nat) : List.replicate n false = part t n 0 := by
  refine List.ext_getElem (by simp [part]) fun j h1 h2 => ?_
  simp [part]
theorem part_skip (t : Nat → Bool) (n k : Nat) (h : t k = false) : part t n k = part t n (k + 1) := by
  refine List.ext_getElem (by simp [part]) fun j h1 h2 => ?_
  simp only [part, List.getElem_map, List.getElem_range]
  by_cases h3 : j < k
  · simp [h3, Nat.lt_succ_of_lt h3]
  · by_cases h4 : j = k
    · subst h4
      simp [h]
    · have h5 : ¬ j < k + 1 := by omega
      simp [h3, h5]
theorem part_get (t : Nat → Bool) (n k j : Nat) (h : j < n) (hk : j < k) : rdOf false (part t n k) (j : Int) = t j := by
  simp [rdOf, part, List.getD_eq_getElem?_getD, h, hk]
theorem rdB (l : List Bool) (j : Nat) : rdOf false l (j : Int) = l.getD j false := by simp [rdOf]
/-- What the next row holds: of a sign for many things; of one for one thing ('m j': it fits thing j). -/
def tM (can : List Bool) (k : Nat) : Bool := (can.take (k + 1)).any id
def tO (m : Nat → Bool) (can : List Bool) (k : Nat) : Bool := decide (0 < k) && (can.getD (k - 1) false && m (k - 1))
def nx (many : Bool) (m : Nat → Bool) (can : List Bool) : List Bool := part (if many = true then tM can else tO m can) can.length can.length
theorem nx_len (many : Bool) (m : Nat → Bool) (can : List Bool) : (nx many m can).length = can.length := part_len _ _ _
theorem tM_zero (can : List Bool) (h : 0 < can.length) : tM can 0 = can.getD 0 false := by
  cases can with
  | nil => simp at h
  | cons a can => simp [tM]
theorem any_take (can : List Bool) (k : Nat) (h : k < can.length) : (can.take (k + 1)).any id = ((can.take k).any id || can.getD k false) := by
  rw [← List.take_append_getElem h, List.any_append]
  simp [List.getD_eq_getElem?_getD, List.getElem?_eq_getElem h]
theorem w1 (k : Nat) (h : k ≤ 140737488355328) : wrap64 ((k : Int) + 1) = ((k + 1 : Nat) : Int) := by rw [w64 (by omega) (by omega)]; rfl
theorem w1' (k : Nat) (h : k + 1 ≤ 140737488355328) : wrap64 (((k + 1 : Nat) : Int) - 1) = (k : Int) := by rw [w64 (by omega) (by omega)]; omega

section
variable (x1 : List Int)
def mB (c : Int) (j : Nat) : Bool := if c = 63 then true else c == rd x1 (j : Int)
theorem fb_l1 (can : List Bool) (hcan : can.length = x1.length + 1) (hl : x1.length ≤ 140737488351232) (c : Int) (pats : List Int) (i : Int) (r : Bool) (d : Nat) : ∀ k : Nat, k + d = can.length →
    Ev (fun n => blob_fits_byte_51_52.l0 n x1 (nx (c == 42) (mB x1 c) can) pats (pats.length : Int) (wrap64 (i + 1))) r →
    Ev (fun n => blob_fits_byte_51_52.l1 n x1 can c (part (if (c == 42) = true then tM can else tO (mB x1 c) can) can.length k) (if (c == 42) = true then (can.take k).any id else false) pats (pats.length : Int) i (can.length : Int) k) r := by
  induction d with
  | zero =>
    intro k hk key
    have c0 : ¬ (k : Int) < (can.length : Int) := by omega
    refine Ev.to key fun n => ?_
    simp only [blob_fits_byte_51_52.l1]
    rw [if_neg c0]
    have : k = can.length := by omega
    rw [this]
    rfl
  | succ d ih =>
    intro k hk key
    have c0 : (k : Int) < (can.length : Int) := by omega
    have hlt : k < can.length := by omega
    have hw := w1 k (by omega)
    have key := ih (k + 1) (by omega) key
    refine Ev.to key fun n => ?_
    simp only [blob_fits_byte_51_52.l1, blob_partFits_1.f, Option.bind_some]
    rw [if_pos c0]
    by_cases hc : (c == 42) = true
    · rw [if_pos hc]
      simp only [hc, if_true]
      have e1 := part_set (tM can) can.length k
      have e2 : tM can k = ((can.take k).any id || can.getD k false) := any_take can k hlt
      have e3 := any_take can k hlt
      by_cases ha : (can.take k).any id = true
      · rw [if_pos ha, if_pos (Int.natCast_nonneg _), part_len, if_pos c0, hw, Int.toNat_natCast]
        rw [ha, Bool.true_or] at e2 e3
        rw [e2] at e1
        rw [e1, e3]
      · rw [if_neg ha, if_pos (Int.natCast_nonneg _), if_pos c0, part_len, if_pos c0, hw, Int.toNat_natCast, rdB]
        rw [Bool.not_eq_true] at ha
        rw [ha, Bool.false_or] at e2 e3
        rw [e2] at e1
        rw [e1, e3]
    · rw [if_neg hc]
      have hc' : (c == 42) = false := by simpa using hc
      simp only [hc', Bool.false_eq_true, if_false]
      have e1 := part_set (tO (mB x1 c) can) can.length k
      cases k with
      | zero =>
        rw [if_neg (by simp), hw, part_skip _ _ _ (show tO (mB x1 c) can 0 = false by simp [tO])]
      | succ k =>
        have c1 : ((k + 1 : Nat) : Int) > 0 := by omega
        have c2 : (k : Int) < (can.length : Int) := by omega
        have c3 : (k : Int) < (x1.length : Int) := by omega
        have hw' := w1' k (by omega)
        rw [if_pos c1, hw', if_pos (Int.natCast_nonneg _), if_pos c2, rdB]
        have e2 : tO (mB x1 c) can (k + 1) = (can.getD k false && mB x1 c k) := by simp [tO]
        have e3 : blob_partFits_2.f c (rd x1 (k : Int)) = some (mB x1 c k) := by
          unfold blob_partFits_2.f mB
          split <;> rfl
        by_cases hq : can.getD k false = true
        · rw [hq, Bool.true_and] at e2
          rw [e2] at e1
          rw [if_pos hq, if_pos c3, e3, Option.bind_some, if_pos (Int.natCast_nonneg _), part_len, if_pos c0, hw, Int.toNat_natCast, e1]
        · rw [if_neg hq]
          rw [Bool.not_eq_true] at hq
          rw [hq, Bool.false_and] at e2
          rw [e2] at e1
          rw [if_pos (Int.natCast_nonneg _), part_len, if_pos c0, hw, Int.toNat_natCast, e1]
/-- The table's last row. -/
def dpB (x1 : List Int) : List Int → List Bool → List Bool
  | [], can => can
  | c :: pats, can => dpB x1 pats (nx (c == 42) (mB x1 c) can)
theorem fb_l0 (hl : x1.length ≤ 140737488351232) (pats : List Int) (hp : pats.length ≤ 140737488351232) (d : Nat) : ∀ (i : Nat) (can : List Bool), can.length = x1.length + 1 → i + d = pats.length →
    Ev (fun n => blob_fits_byte_51_52.l0 n x1 can pats (pats.length : Int) i) ((dpB x1 (pats.drop i) can).getD x1.length false) := by
  induction d with
  | zero =>
    intro i can hcan hi
    have c0 : ¬ (i : Int) < (pats.length : Int) := by omega
    have c1 : (x1.length : Int) < (can.length : Int) := by omega
    rw [List.drop_eq_nil_of_le (by omega)]
    refine Ev.to (Ev.now _) fun n => ?_
    simp only [blob_fits_byte_51_52.l0]
    rw [if_neg c0, if_pos (Int.natCast_nonneg _), if_pos c1, rdB]
    rfl
  | succ d ih =>
    intro i can hcan hi
    have hlt : i < pats.length := by omega
    have c0 : (i : Int) < (pats.length : Int) := by omega
    have hw := w1 i (by omega)
    rw [List.drop_eq_getElem_cons hlt]
    have key := ih (i + 1) (nx (pats[i] == 42) (mB x1 pats[i]) can) (by rw [nx_len]; exact hcan) (by omega)
    rw [← hw] at key
    have k2 := fb_l1 x1 can hcan hl pats[i] pats i _ can.length 0 (by omega) key
    rw [List.take_zero, List.any_nil, ite_self] at k2
    have c2 : ((can.length : Int) : Int).toNat ≤ 281474976710656 := by omega
    refine Ev.to k2 fun n => ?_
    simp only [blob_fits_byte_51_52.l0]
    rw [if_pos c0, if_pos (Int.natCast_nonneg _), if_pos c0, if_pos (Int.natCast_nonneg _), if_pos c2, Int.toNat_natCast, rd_lt pats i hlt, part_zero]
    rfl
end

end Go.Proofs.YtjdfbpjbobmgdaaDoor.PurePat
