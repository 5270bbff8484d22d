/- Whether a path fits a pattern, both parted: the program's and the reference's tables compute one plain function. Conditions: the lengths are as strings' lengths can be. -/
import Derived.Test.YtjdfbpjbobmgdaaDoorPatFitRB
namespace Go.Proofs.YtjdfbpjbobmgdaaDoor.PurePat
open Go.RowKit Go.Proofs.YtjdfbpjbobmgdaaDoor.QPat Go.Proofs.YtjdfbpjbobmgdaaDoorW.PrintWords Go.Proofs.YtjdfbpjbobmgdaaDoorW.PrintLast Go.Proofs.YtjdfbpjbobmgdaaDoorW.PrintMore Go.Proofs.YtjdfbpjbobmgdaaDoor.Pure

abbrev two (c : ByteArray) : Bool := c.toList == ([42, 42] : List UInt8)
def mS (x1 : List ByteArray) (c : ByteArray) (j : Nat) : Bool := fitB c (rdOf ByteArray.empty x1 (j : Int))
def Short (l : List ByteArray) : Prop := l.length ≤ 140737488351232 ∧ ∀ x ∈ l, x.size ≤ 140737488351232
theorem Short.at {l : List ByteArray} (h : Short l) (j : Nat) (hj : j < l.length) : (rdOf ByteArray.empty l (j : Int)).size ≤ 140737488351232 := by
  have e : rdOf ByteArray.empty l (j : Int) = l[j] := by simp [rdOf, List.getD_eq_getElem?_getD, List.getElem?_eq_getElem hj]
  rw [e]
  exact h.2 _ (List.getElem_mem hj)
theorem rdS (l : List ByteArray) (j : Nat) (hj : j < l.length) : rdOf ByteArray.empty l (j : Int) = l[j] := by simp [rdOf, List.getD_eq_getElem?_getD, List.getElem?_eq_getElem hj]
theorem fs_l1 (x1 can : _) (hcan : can.length = x1.length + 1) (hx : Short x1) (c : ByteArray) (hcs : c.size ≤ 140737488351232) (pats : List ByteArray) (i : Int) (r : Bool) (d : Nat) : ∀ k : Nat, k + d = can.length →
    Ev (fun n => blob_fits_string_37_38.l0 n x1 (nx (two c) (mS x1 c) can) pats (pats.length : Int) (wrap64 (i + 1))) r →
    Ev (fun n => blob_fits_string_37_38.l1 n x1 can c (part (if two c = true then tM can else tO (mS x1 c) can) can.length k) (if two c = true then (can.take k).any id else false) pats (pats.length : Int) i (can.length : Int) k) r := by
  have hl := hx.1
  induction d with
  | zero =>
    intro k hk key
    have c0 : ¬ (k : Int) < (can.length : Int) := by omega
    refine Ev.to key fun n => ?_
    simp only [blob_fits_string_37_38.l1]
    rw [if_neg c0]
    have : k = can.length := by omega
    rw [this]
    rfl
  | succ d ih =>
    intro k hk key
    have c0 : (k : Int) < (can.length : Int) := by omega
    have hlt : k < can.length := by omega
    have hw := w1 k (by omega)
    have key := ih (k + 1) (by omega) key
    by_cases hc : two c = true
    · refine Ev.to key fun n => ?_
      simp only [blob_fits_string_37_38.l1, blob_pathFits_1.f, Option.bind_some]
      rw [if_pos c0, if_pos hc]
      simp only [hc, if_true]
      have e1 := part_set (tM can) can.length k
      have e2 : tM can k = ((can.take k).any id || can.getD k false) := any_take can k hlt
      have e3 := any_take can k hlt
      by_cases ha : (can.take k).any id = true
      · rw [if_pos ha, if_pos (Int.natCast_nonneg _), part_len, if_pos c0, hw, Int.toNat_natCast]
        rw [ha, Bool.true_or] at e2 e3
        rw [e2] at e1
        rw [e1, e3]
      · rw [if_neg ha, if_pos (Int.natCast_nonneg _), if_pos c0, part_len, if_pos c0, hw, Int.toNat_natCast, rdB]
        rw [Bool.not_eq_true] at ha
        rw [ha, Bool.false_or] at e2 e3
        rw [e2] at e1
        rw [e1, e3]
    · have hc' : two c = false := by simpa using hc
      simp only [hc', Bool.false_eq_true, if_false] at key ⊢
      have e1 := part_set (tO (mS x1 c) can) can.length k
      cases k with
      | zero =>
        refine Ev.to key fun n => ?_
        simp only [blob_fits_string_37_38.l1, blob_pathFits_1.f, Option.bind_some]
        rw [if_pos c0, if_neg hc, if_neg (by simp), hw, part_skip _ _ _ (show tO (mS x1 c) can 0 = false by simp [tO])]
      | succ k =>
        have c1 : ((k + 1 : Nat) : Int) > 0 := by omega
        have c2 : (k : Int) < (can.length : Int) := by omega
        have c3 : (k : Int) < (x1.length : Int) := by omega
        have hw' := w1' k (by omega)
        have e2 : tO (mS x1 c) can (k + 1) = (can.getD k false && mS x1 c k) := by simp [tO]
        by_cases hq : can.getD k false = true
        · rw [hq, Bool.true_and] at e2
          rw [e2] at e1
          rw [← e1] at key
          refine Ev.to (f := fun n => (blob_partFits.f n c (rdOf ByteArray.empty x1 (k : Int))).bind fun t => blob_fits_string_37_38.l1 n x1 can c ((part (tO (mS x1 c) can) can.length (k + 1)).set (k + 1) t) false pats (pats.length : Int) i (can.length : Int) ((k + 1 + 1 : Nat) : Int)) (Ev.bindk (part_ev c _ (hx.at k (by omega)) hcs) key) fun n => ?_
          simp only [blob_fits_string_37_38.l1, blob_pathFits_1.f, Option.bind_some]
          rw [if_pos c0, if_neg hc, if_pos c1, hw', if_pos (Int.natCast_nonneg _), if_pos c2, rdB, if_pos hq, if_pos c3]
          simp only [part_len]
          rw [hw, Int.toNat_natCast]
          refine congrArg _ (funext fun t => ?_)
          rw [if_pos (Int.natCast_nonneg _), if_pos c0]
        · refine Ev.to key fun n => ?_
          simp only [blob_fits_string_37_38.l1, blob_pathFits_1.f, Option.bind_some]
          rw [if_pos c0, if_neg hc, if_pos c1, hw', if_pos (Int.natCast_nonneg _), if_pos c2, rdB, if_neg hq]
          rw [Bool.not_eq_true] at hq
          rw [hq, Bool.false_and] at e2
          rw [e2] at e1
          rw [if_pos (Int.natCast_nonneg _), part_len, if_pos c0, hw, Int.toNat_natCast, e1]
/-- The table's last row. -/
def dpS (x1 : List ByteArray) : List ByteArray → List Bool → List Bool
  | [], can => can
  | c :: pats, can => dpS x1 pats (nx (two c) (mS x1 c) can)
theorem fs_l0 (x1 : List ByteArray) (hx : Short x1) (pats : List ByteArray) (hp : Short pats) (d : Nat) : ∀ (i : Nat) (can : List Bool), can.length = x1.length + 1 → i + d = pats.length →
    Ev (fun n => blob_fits_string_37_38.l0 n x1 can pats (pats.length : Int) i) ((dpS x1 (pats.drop i) can).getD x1.length false) := by
  have hl := hx.1
  have hpl := hp.1
  induction d with
  | zero =>
    intro i can hcan hi
    have c0 : ¬ (i : Int) < (pats.length : Int) := by omega
    have c1 : (x1.length : Int) < (can.length : Int) := by omega
    rw [List.drop_eq_nil_of_le (by omega)]
    refine Ev.to (Ev.now _) fun n => ?_
    simp only [blob_fits_string_37_38.l0]
    rw [if_neg c0, if_pos (Int.natCast_nonneg _), if_pos c1, rdB]
    rfl
  | succ d ih =>
    intro i can hcan hi
    have hlt : i < pats.length := by omega
    have c0 : (i : Int) < (pats.length : Int) := by omega
    have hw := w1 i (by omega)
    rw [List.drop_eq_getElem_cons hlt]
    have key := ih (i + 1) (nx (two pats[i]) (mS x1 pats[i]) can) (by rw [nx_len]; exact hcan) (by omega)
    rw [← hw] at key
    have k2 := fs_l1 x1 can hcan hx pats[i] (hp.2 _ (List.getElem_mem hlt)) pats i _ can.length 0 (by omega) key
    rw [List.take_zero, List.any_nil, ite_self] at k2
    have c2 : ((can.length : Int) : Int).toNat ≤ 281474976710656 := by omega
    refine Ev.to k2 fun n => ?_
    simp only [blob_fits_string_37_38.l0]
    rw [if_pos c0, if_pos (Int.natCast_nonneg _), if_pos c0, if_pos (Int.natCast_nonneg _), if_pos c2, Int.toNat_natCast, rdS pats i hlt, part_zero]
    rfl
theorem rs_l1 (x1 can : _) (hcan : can.length = x1.length + 1) (hx : Short x1) (pats : List ByteArray) (hp : Short pats) (i : Nat) (hi : i < pats.length) (r : Bool) (d : Nat) : ∀ k : Nat, k + d = can.length →
    Ev (fun n => smithyardref1_FitsOf.l0 n x1 (nx (two pats[i]) (mS x1 pats[i]) can) pats (wrap64 ((i : Int) + 1))) r →
    Ev (fun n => smithyardref1_FitsOf.l1 n x1 can pats i (part (if two pats[i] = true then tM can else tO (mS x1 pats[i]) can) can.length k) k) r := by
  have hl := hx.1
  have hcs := hp.2 _ (List.getElem_mem hi)
  have hr := rdS pats i hi
  generalize pats[i] = c at hcs hr ⊢
  induction d with
  | zero =>
    intro k hk key
    have c0 : ¬ (k : Int) ≤ (x1.length : Int) := by omega
    refine Ev.to key fun n => ?_
    simp only [smithyardref1_FitsOf.l1]
    rw [if_neg c0]
    have : k = can.length := by omega
    rw [this]
    rfl
  | succ d ih =>
    intro k hk key
    have c0 : (k : Int) ≤ (x1.length : Int) := by omega
    have ci : (i : Int) < (pats.length : Int) := by omega
    have ck : (k : Int) < (can.length : Int) := by omega
    have hlt : k < can.length := by omega
    have hw := w1 k (by omega)
    have key := ih (k + 1) (by omega) key
    by_cases hc : two c = true
    · have hc2 : c.toList = ([42, 42] : List UInt8) := by simpa [two] using hc
      simp only [hc, if_true] at key ⊢
      refine Ev.to key fun n => ?_
      simp only [smithyardref1_FitsOf.l1]
      rw [if_pos c0, if_pos (Int.natCast_nonneg i), if_pos ci, hr, if_pos hc2]
      have e1 := part_set (tM can) can.length k
      rw [if_pos (Int.natCast_nonneg k), if_pos ck, rdB]
      by_cases ha : can.getD k false = true
      · have e2 : tM can k = true := by
          have := any_take can k hlt
          rw [ha, Bool.or_true] at this
          exact this
        rw [e2] at e1
        rw [if_pos ha, part_len, if_pos ck, hw, Int.toNat_natCast, e1]
      · rw [if_neg ha]
        rw [Bool.not_eq_true] at ha
        cases k with
        | zero =>
          have e2 : tM can 0 = false := by rw [tM_zero can hlt, ha]
          rw [e2] at e1
          rw [if_neg (by simp), part_len, if_pos ck, hw, Int.toNat_natCast, e1]
        | succ k =>
          have c1 : ((k + 1 : Nat) : Int) > 0 := by omega
          have c2 : (k : Int) < (can.length : Int) := by omega
          have hw' := w1' k (by omega)
          have e2 : tM can (k + 1) = tM can k := by rw [tM_succ can k hlt, ha, Bool.false_or]
          rw [e2] at e1
          rw [if_pos c1, hw', if_pos (Int.natCast_nonneg _), part_len, if_pos c2, if_pos ck, hw, Int.toNat_natCast, part_get _ _ _ _ (by omega) (by omega), e1]
    · have hc2 : ¬ c.toList = ([42, 42] : List UInt8) := by simpa [two] using hc
      have hc' : two c = false := by simpa using hc
      simp only [hc', Bool.false_eq_true, if_false] at key ⊢
      have e1 := part_set (tO (mS x1 c) can) can.length k
      cases k with
      | zero =>
        have e2 : tO (mS x1 c) can 0 = false := by simp [tO]
        rw [e2] at e1
        refine Ev.to key fun n => ?_
        simp only [smithyardref1_FitsOf.l1]
        rw [if_pos c0, if_pos (Int.natCast_nonneg i), if_pos ci, hr, if_neg hc2, if_neg (by simp), if_pos (Int.natCast_nonneg _), part_len, if_pos ck, hw, Int.toNat_natCast, e1]
      | succ k =>
        have c1 : ((k + 1 : Nat) : Int) > 0 := by omega
        have c2 : (k : Int) < (can.length : Int) := by omega
        have c3 : (k : Int) < (x1.length : Int) := by omega
        have hw' := w1' k (by omega)
        have e2 : tO (mS x1 c) can (k + 1) = (can.getD k false && mS x1 c k) := by simp [tO]
        by_cases hq : can.getD k false = true
        · rw [hq, Bool.true_and] at e2
          rw [e2] at e1
          rw [← e1] at key
          refine Ev.to (f := fun n => (smithyardref1_partFits.f n c (rdOf ByteArray.empty x1 (k : Int))).bind fun t => smithyardref1_FitsOf.l1 n x1 can pats i ((part (tO (mS x1 c) can) can.length (k + 1)).set (k + 1) t) ((k + 1 + 1 : Nat) : Int)) (Ev.bindk (refpart_ev c _ (hx.at k (by omega)) hcs) key) fun n => ?_
          simp only [smithyardref1_FitsOf.l1]
          rw [if_pos c0, if_pos (Int.natCast_nonneg i), if_pos ci, hr, if_neg hc2, if_pos c1, hw', if_pos (Int.natCast_nonneg _), if_pos c2, rdB, if_pos hq, if_pos c3]
          simp only [part_len]
          rw [hw, Int.toNat_natCast]
          refine congrArg _ (funext fun t => ?_)
          rw [if_pos (Int.natCast_nonneg _), if_pos ck]
        · refine Ev.to key fun n => ?_
          simp only [smithyardref1_FitsOf.l1]
          rw [if_pos c0, if_pos (Int.natCast_nonneg i), if_pos ci, hr, if_neg hc2, if_pos c1, hw', if_pos (Int.natCast_nonneg _), if_pos c2, rdB, if_neg hq]
          rw [Bool.not_eq_true] at hq
          rw [hq, Bool.false_and] at e2
          rw [e2] at e1
          rw [if_pos (Int.natCast_nonneg _), part_len, if_pos ck, hw, Int.toNat_natCast, e1]
theorem rs_l0 (x1 : List ByteArray) (hx : Short x1) (pats : List ByteArray) (hp : Short pats) (d : Nat) : ∀ (i : Nat) (can : List Bool), can.length = x1.length + 1 → i + d = pats.length →
    Ev (fun n => smithyardref1_FitsOf.l0 n x1 can pats i) ((dpS x1 (pats.drop i) can).getD x1.length false) := by
  have hl := hx.1
  have hpl := hp.1
  induction d with
  | zero =>
    intro i can hcan hi
    have c0 : ¬ (i : Int) < (pats.length : Int) := by omega
    have c1 : (x1.length : Int) < (can.length : Int) := by omega
    rw [List.drop_eq_nil_of_le (by omega)]
    refine Ev.to (Ev.now _) fun n => ?_
    simp only [smithyardref1_FitsOf.l0]
    rw [if_neg c0, if_pos (Int.natCast_nonneg _), if_pos c1, rdB]
    rfl
  | succ d ih =>
    intro i can hcan hi
    have hlt : i < pats.length := by omega
    have c0 : (i : Int) < (pats.length : Int) := by omega
    have hw := w1 i (by omega)
    have hws := w1 x1.length (by omega)
    rw [List.drop_eq_getElem_cons hlt]
    have key := ih (i + 1) (nx (two pats[i]) (mS x1 pats[i]) can) (by rw [nx_len]; exact hcan) (by omega)
    rw [← hw] at key
    have k2 := rs_l1 x1 can hcan hx pats hp i hlt _ can.length 0 (by omega) key
    have c2 : ((x1.length + 1 : Nat) : Int).toNat ≤ 281474976710656 := by omega
    refine Ev.to k2 fun n => ?_
    simp only [smithyardref1_FitsOf.l0]
    rw [if_pos c0, hws, if_pos (Int.natCast_nonneg _), if_pos c2, Int.toNat_natCast, ← part_zero, hcan]
    rfl
/-- Whether a parted path fits a parted pattern. -/
def fitS (pats x1 : List ByteArray) : Bool := (dpS x1 pats ((List.replicate (x1.length + 1) false).set 0 true)).getD x1.length false
theorem fs_ev (pats x1 : List ByteArray) (hp : Short pats) (hx : Short x1) : Ev (fun n => blob_fits_string_37_38.f n pats x1) (fitS pats x1) := by
  have hl := hx.1
  unfold blob_fits_string_37_38.f
  have hws := w1 x1.length (by omega)
  have c3 : (0 : Int) < ((List.replicate (x1.length + 1) false).length : Int) := by rw [List.length_replicate]; omega
  have := fs_l0 x1 hx pats hp pats.length 0 ((List.replicate (x1.length + 1) false).set 0 true) (by simp) (by omega)
  rw [List.drop_zero] at this
  rw [hws, Int.toNat_natCast]
  exact Ev.ite_pos (Int.natCast_nonneg _) (Ev.ite_pos (by omega) (Ev.bindc rfl (Ev.ite_pos c3 this)))

end Go.Proofs.YtjdfbpjbobmgdaaDoor.PurePat
