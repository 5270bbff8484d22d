/- The reference's table for a part of a path and a part of a pattern: the same plain function as the program's. Conditions: the lengths are as strings' lengths can be. -/
import Derived.Test.YtjdfbpjbobmgdaaDoorPatFitB
namespace Go.Proofs.YtjdfbpjbobmgdaaDoor.PurePat
open Go.RowKit Go.Proofs.YtjdfbpjbobmgdaaDoor.QPat Go.Proofs.YtjdfbpjbobmgdaaDoorW.PrintWords Go.Proofs.YtjdfbpjbobmgdaaDoorW.PrintLast Go.Proofs.YtjdfbpjbobmgdaaDoorW.PrintMore Go.Proofs.YtjdfbpjbobmgdaaDoor.Pure

theorem tM_succ (can : List Bool) (k : Nat) (h : k + 1 < can.length) : tM can (k + 1) = (can.getD (k + 1) false || tM can k) := by
  have := any_take can (k + 1) h
  simp only [tM]
  rw [this, Bool.or_comm]
theorem rb_l1 (p s : ByteArray) (can : List Bool) (hcan : can.length = s.size + 1) (hs : s.size ≤ 140737488351232) (i : Nat) (hi : i < p.size) (r : Bool) (d : Nat) : ∀ k : Nat, k + d = can.length →
    Ev (fun n => smithyardref1_partFits.l0 n p s (nx (bt p i == 42) (mB (bytesOf s) (bt p i)) can) (wrap64 ((i : Int) + 1))) r →
    Ev (fun n => smithyardref1_partFits.l1 n p s can i (part (if (bt p i == 42) = true then tM can else tO (mB (bytesOf s) (bt p i)) can) can.length k) k) r := by
  induction d with
  | zero =>
    intro k hk key
    have c0 : ¬ (k : Int) ≤ (s.size : Int) := by omega
    refine Ev.to key fun n => ?_
    simp only [smithyardref1_partFits.l1]
    rw [if_neg c0]
    have : k = can.length := by omega
    rw [this]
    rfl
  | succ d ih =>
    intro k hk key
    have c0 : (k : Int) ≤ (s.size : Int) := by omega
    have ci : (i : Int) < (p.size : Int) := by omega
    have ck : (k : Int) < (can.length : Int) := by omega
    have hlt : k < can.length := by omega
    have hw := w1 k (by omega)
    have key := ih (k + 1) (by omega) key
    refine Ev.to key fun n => ?_
    simp only [smithyardref1_partFits.l1]
    rw [if_pos c0, if_pos (Int.natCast_nonneg i), if_pos ci]
    by_cases hc : bt p i = 42
    · have hc' : (bt p i == 42) = true := by simpa using hc
      rw [if_pos hc]
      simp only [hc', if_true]
      have e1 := part_set (tM can) can.length k
      rw [if_pos (Int.natCast_nonneg k), if_pos ck, rdB]
      by_cases ha : can.getD k false = true
      · have e2 : tM can k = true := by
          have := any_take can k hlt
          rw [ha, Bool.or_true] at this
          exact this
        rw [e2] at e1
        rw [if_pos ha, part_len, if_pos ck, hw, Int.toNat_natCast, e1]
      · rw [if_neg ha]
        rw [Bool.not_eq_true] at ha
        cases k with
        | zero =>
          have e2 : tM can 0 = false := by rw [tM_zero can hlt, ha]
          rw [e2] at e1
          rw [if_neg (by simp), part_len, if_pos ck, hw, Int.toNat_natCast, e1]
        | succ k =>
          have c1 : ((k + 1 : Nat) : Int) > 0 := by omega
          have c2 : (k : Int) < (can.length : Int) := by omega
          have hw' := w1' k (by omega)
          have e2 : tM can (k + 1) = tM can k := by rw [tM_succ can k hlt, ha, Bool.false_or]
          rw [e2] at e1
          rw [if_pos c1, hw', if_pos (Int.natCast_nonneg _), part_len, if_pos c2, if_pos ck, hw, Int.toNat_natCast, part_get _ _ _ _ (by omega) (by omega), e1]
    · have hc' : (bt p i == 42) = false := by simpa using hc
      rw [if_neg hc]
      simp only [hc', Bool.false_eq_true, if_false]
      have e1 := part_set (tO (mB (bytesOf s) (bt p i)) can) can.length k
      cases k with
      | zero =>
        have e2 : tO (mB (bytesOf s) (bt p i)) can 0 = false := by simp [tO]
        rw [e2] at e1
        rw [if_neg (by simp), if_pos (Int.natCast_nonneg _), part_len, if_pos ck, hw, Int.toNat_natCast, e1]
      | succ k =>
        have c1 : ((k + 1 : Nat) : Int) > 0 := by omega
        have c2 : (k : Int) < (can.length : Int) := by omega
        have c3 : (k : Int) < (s.size : Int) := by omega
        have hw' := w1' k (by omega)
        rw [if_pos c1, hw', if_pos (Int.natCast_nonneg _), if_pos c2, rdB]
        have e2 : tO (mB (bytesOf s) (bt p i)) can (k + 1) = (can.getD k false && mB (bytesOf s) (bt p i) k) := by simp [tO]
        by_cases hq : can.getD k false = true
        · rw [hq, Bool.true_and] at e2
          rw [e2] at e1
          rw [if_pos hq]
          unfold mB at e1 ⊢
          by_cases h63 : bt p i = 63
          · rw [if_pos h63] at e1
            rw [if_pos h63, if_pos (Int.natCast_nonneg _), part_len, if_pos ck, hw, Int.toNat_natCast, e1]
          · rw [if_neg h63, rd_bytesOf] at e1
            rw [if_neg h63, if_pos c3, if_pos (Int.natCast_nonneg _), part_len, if_pos ck, hw, Int.toNat_natCast, e1]
        · rw [if_neg hq]
          rw [Bool.not_eq_true] at hq
          rw [hq, Bool.false_and] at e2
          rw [e2] at e1
          rw [if_pos (Int.natCast_nonneg _), part_len, if_pos ck, hw, Int.toNat_natCast, e1]
theorem bt_get (p : ByteArray) (i : Nat) (h : i < (bytesOf p).length) : bt p (i : Int) = (bytesOf p)[i] := by
  rw [← rd_bytesOf, rd_lt _ _ h]
theorem rb_l0 (p s : ByteArray) (hs : s.size ≤ 140737488351232) (hp : p.size ≤ 140737488351232) (d : Nat) : ∀ (i : Nat) (can : List Bool), can.length = s.size + 1 → i + d = p.size →
    Ev (fun n => smithyardref1_partFits.l0 n p s can i) ((dpB (bytesOf s) ((bytesOf p).drop i) can).getD s.size false) := by
  induction d with
  | zero =>
    intro i can hcan hi
    have c0 : ¬ (i : Int) < (p.size : Int) := by omega
    have c1 : (s.size : Int) < (can.length : Int) := by omega
    rw [List.drop_eq_nil_of_le (by rw [bytesOf_length]; omega)]
    refine Ev.to (Ev.now _) fun n => ?_
    simp only [smithyardref1_partFits.l0]
    rw [if_neg c0, if_pos (Int.natCast_nonneg _), if_pos c1, rdB]
    rfl
  | succ d ih =>
    intro i can hcan hi
    have hlt : i < (bytesOf p).length := by rw [bytesOf_length]; omega
    have c0 : (i : Int) < (p.size : Int) := by omega
    have hw := w1 i (by omega)
    have hws := w1 s.size (by omega)
    rw [List.drop_eq_getElem_cons hlt, ← bt_get p i hlt]
    have key := ih (i + 1) (nx (bt p i == 42) (mB (bytesOf s) (bt p i)) can) (by rw [nx_len]; exact hcan) (by omega)
    rw [← hw] at key
    have k2 := rb_l1 p s can hcan hs i (by omega) _ can.length 0 (by omega) key
    have c2 : ((s.size + 1 : Nat) : Int).toNat ≤ 281474976710656 := by omega
    refine Ev.to k2 fun n => ?_
    simp only [smithyardref1_partFits.l0]
    rw [if_pos c0, hws, if_pos (Int.natCast_nonneg _), if_pos c2, Int.toNat_natCast, ← part_zero, hcan]
    rfl
/-- Whether a part of a path fits a part of a pattern. -/
def fitB (p s : ByteArray) : Bool := (dpB (bytesOf s) (bytesOf p) ((List.replicate (s.size + 1) false).set 0 true)).getD s.size false
theorem refpart_ev (p s : ByteArray) (hs : s.size ≤ 140737488351232) (hp : p.size ≤ 140737488351232) : Ev (fun n => smithyardref1_partFits.f n p s) (fitB p s) := by
  have hws := w1 s.size (by omega)
  have c2 : ((s.size + 1 : Nat) : Int).toNat ≤ 281474976710656 := by omega
  have c3 : (0 : Int) < ((List.replicate (s.size + 1) false).length : Int) := by rw [List.length_replicate]; omega
  have := rb_l0 p s hs hp p.size 0 ((List.replicate (s.size + 1) false).set 0 true) (by simp) (by omega)
  rw [List.drop_zero] at this
  unfold smithyardref1_partFits.f
  rw [hws, Int.toNat_natCast]
  exact Ev.ite_pos (Int.natCast_nonneg _) (Ev.ite_pos (by omega) (Ev.bindc rfl (Ev.ite_pos c3 this)))
theorem part_ev (p s : ByteArray) (hs : s.size ≤ 140737488351232) (hp : p.size ≤ 140737488351232) : Ev (fun n => blob_partFits.f n p s) (fitB p s) := by
  unfold blob_partFits.f
  refine Ev.ite_pos (by omega) (Ev.ite_pos (by omega) ?_)
  unfold blob_fits_byte_51_52.f
  rw [bytesOf_length]
  have hws := w1 s.size (by omega)
  have c3 : (0 : Int) < ((List.replicate (s.size + 1) false).length : Int) := by rw [List.length_replicate]; omega
  have := fb_l0 (bytesOf s) (by rw [bytesOf_length]; exact hs) (bytesOf p) (by rw [bytesOf_length]; exact hp) (bytesOf p).length 0 ((List.replicate (s.size + 1) false).set 0 true) (by simp [bytesOf_length]) (by omega)
  rw [List.drop_zero, bytesOf_length, bytesOf_length] at this
  rw [hws, Int.toNat_natCast, bytesOf_length]
  exact Ev.ite_pos (Int.natCast_nonneg _) (Ev.ite_pos (by omega) (Ev.bindc rfl (Ev.ite_pos c3 this)))

end Go.Proofs.YtjdfbpjbobmgdaaDoor.PurePat
