/- Paths, patterns and their parts: what the program's and the reference's checks answer. Conditions: the strings' lengths are as strings' lengths can be. -/
import Derived.Test.YtjdfbpjbobmgdaaDoorPatFitS
namespace Go.Proofs.YtjdfbpjbobmgdaaDoor.PurePat
open Go.RowKit Go.Proofs.YtjdfbpjbobmgdaaDoor.QPat Go.Proofs.YtjdfbpjbobmgdaaDoorW.PrintWords Go.Proofs.YtjdfbpjbobmgdaaDoorW.PrintLast Go.Proofs.YtjdfbpjbobmgdaaDoorW.PrintMore Go.Proofs.YtjdfbpjbobmgdaaDoor.Pure

def pb (a : Int) : Bool := (smithyardref1_partByte.f a).getD false
theorem pb_all : ((List.range 256).all fun n => (smithyardref1_partByte.f (n : Int) == some (pb (n : Int))) && (blob_inPart.f (n : Int) == some (pb (n : Int)))) = true := by decide +kernel
theorem pb_both (s : ByteArray) (i : Int) : smithyardref1_partByte.f (bt s i) = some (pb (bt s i)) ∧ blob_inPart.f (bt s i) = some (pb (bt s i)) := by
  obtain ⟨h0, h1⟩ := bt_range s i
  generalize bt s i = a at h0 h1
  have := List.all_eq_true.1 pb_all a.toNat (List.mem_range.2 (by omega))
  rw [Int.toNat_of_nonneg h0] at this
  simpa using this
def tl (s : ByteArray) : Bool := if s.toList = ([] : List UInt8) then false else if s.toList = ([46] : List UInt8) then false else s.toList != ([46, 46] : List UInt8)
theorem drop_bytes (s : ByteArray) (i : Nat) (h : i < s.size) : (bytesOf s).drop i = bt s (i : Int) :: (bytesOf s).drop (i + 1) := by
  have h' : i < (bytesOf s).length := by rw [bytesOf_length]; exact h
  rw [List.drop_eq_getElem_cons h', ← bt_get s i h']
theorem drop_none (s : ByteArray) : (bytesOf s).drop s.size = [] := List.drop_eq_nil_of_le (by rw [bytesOf_length]; omega)
def isP (s : ByteArray) : Bool := (bytesOf s).all pb && tl s
theorem isPart_l0 (s : ByteArray) (hs : s.size ≤ 140737488351232) (d : Nat) : ∀ i : Nat, i + d = s.size → Ev (fun n => blob_isPart.l0 n s (s.size : Int) i) (((bytesOf s).drop i).all pb && tl s) := by
  induction d with
  | zero =>
    intro i hi
    have c0 : ¬ (i : Int) < (s.size : Int) := by omega
    have e : i = s.size := by omega
    subst e
    rw [drop_none]
    refine Ev.to (Ev.now _) fun n => ?_
    simp only [blob_isPart.l0]
    rw [if_neg c0, List.all_nil, Bool.true_and]
    unfold tl
    split
    · rfl
    · split <;> rfl
  | succ d ih =>
    intro i hi
    have c0 : (i : Int) < (s.size : Int) := by omega
    have hw := w1 i (by omega)
    rw [drop_bytes s i (by omega), List.all_cons]
    have hp := (pb_both s i).2
    by_cases h : pb (bt s i) = true
    · rw [h, Bool.true_and]
      refine Ev.to (ih (i + 1) (by omega)) fun n => ?_
      simp only [blob_isPart.l0]
      rw [if_pos c0, if_pos (Int.natCast_nonneg _), if_pos c0, hp, Option.bind_some, if_pos h, hw]
    · have h' : pb (bt s i) = false := by simpa using h
      rw [h', Bool.false_and, Bool.false_and]
      refine Ev.to (Ev.now _) fun n => ?_
      simp only [blob_isPart.l0]
      rw [if_pos c0, if_pos (Int.natCast_nonneg _), if_pos c0, hp, Option.bind_some, if_neg h]
theorem isPart_ev (s : ByteArray) (hs : s.size ≤ 140737488351232) : Ev (fun n => blob_isPart.f n s) (isP s) := by
  have := isPart_l0 s hs s.size 0 (by omega)
  exact this
theorem refPart_l0 (s : ByteArray) (hs : s.size ≤ 140737488351232) (d : Nat) : ∀ i : Nat, i + d = s.size → Ev (fun n => smithyardref1_isPart.l0 n s i) (((bytesOf s).drop i).all pb && tl s) := by
  induction d with
  | zero =>
    intro i hi
    have c0 : ¬ (i : Int) < (s.size : Int) := by omega
    have e : i = s.size := by omega
    subst e
    rw [drop_none]
    refine Ev.to (Ev.now _) fun n => ?_
    simp only [smithyardref1_isPart.l0]
    rw [if_neg c0, List.all_nil, Bool.true_and]
    unfold tl
    split
    · rfl
    · split <;> rfl
  | succ d ih =>
    intro i hi
    have c0 : (i : Int) < (s.size : Int) := by omega
    have hw := w1 i (by omega)
    rw [drop_bytes s i (by omega), List.all_cons]
    have hp := (pb_both s i).1
    by_cases h : pb (bt s i) = true
    · rw [h, Bool.true_and]
      refine Ev.to (ih (i + 1) (by omega)) fun n => ?_
      simp only [smithyardref1_isPart.l0]
      rw [if_pos c0, if_pos (Int.natCast_nonneg _), hp, Option.bind_some, if_pos h, hw]
    · have h' : pb (bt s i) = false := by simpa using h
      rw [h', Bool.false_and, Bool.false_and]
      refine Ev.to (Ev.now _) fun n => ?_
      simp only [smithyardref1_isPart.l0]
      rw [if_pos c0, if_pos (Int.natCast_nonneg _), hp, Option.bind_some, if_neg h]
theorem refisPart_ev (s : ByteArray) (hs : s.size ≤ 140737488351232) : Ev (fun n => smithyardref1_isPart.f n s) (isP s) := by
  have := refPart_l0 s hs s.size 0 (by omega)
  exact this

/-! Parting at '/'. -/
def sl : ByteArray := ⟨#[47]⟩
def sp (a : ByteArray) : List ByteArray := Lib.splitB sl 0 (Lib.countB a sl) a
theorem split_some (a : ByteArray) (h : a.size < 4294967281) : strings_Split.f a (⟨#[47]⟩ : ByteArray) = some (sp a) := by
  unfold strings_Split.f
  rw [if_pos h, if_pos (by decide)]
  rfl
theorem splitB_sizes (sep : ByteArray) : ∀ (k : Nat) (s x : ByteArray), x ∈ Lib.splitB sep 0 k s → x.size ≤ s.size
  | 0, s, x, h => by
    rw [Lib.splitB_zero, List.mem_singleton] at h
    rw [h]
    exact Nat.le_refl _
  | k + 1, s, x, h => by
    unfold Lib.splitB at h
    split at h
    · rw [List.mem_singleton] at h
      rw [h]
      exact Nat.le_refl _
    · rcases List.mem_cons.1 h with rfl | h
      · rw [ByteArray.size_extract]
        omega
      · have := splitB_sizes sep k _ x h
        rw [ByteArray.size_extract] at this
        omega
theorem sp_len (a : ByteArray) : (sp a).length ≤ a.size + 1 := by
  have h1 := Lib.splitB_all sl (by decide) 0 (Lib.countB a sl) a rfl
  have h2 := Lib.countB_le sl (by decide) a.size a (Nat.le_refl _)
  unfold sp
  omega
theorem sp_sizes (a x : ByteArray) (h : x ∈ sp a) : x.size ≤ a.size := splitB_sizes _ _ _ _ h
theorem sp_short (a : ByteArray) (h : a.size ≤ 200) : Short (sp a) := ⟨by have := sp_len a; omega, fun x hx => by have := sp_sizes a x hx; omega⟩

/-! Paths. -/
def isPth (a : ByteArray) : Bool := if 1 ≤ a.size ∧ a.size ≤ 200 then (sp a).all isP else false
theorem isPath_l0 (L : List ByteArray) (hL : Short L) (d : Nat) : ∀ i : Nat, i + d = L.length → Ev (fun n => blob_IsPath.l0 n L (L.length : Int) i) ((L.drop i).all isP) := by
  have hl := hL.1
  induction d with
  | zero =>
    intro i hi
    have c0 : ¬ (i : Int) < (L.length : Int) := by omega
    rw [List.drop_eq_nil_of_le (by omega)]
    refine Ev.to (Ev.now _) fun n => ?_
    simp only [blob_IsPath.l0]
    rw [if_neg c0]
    rfl
  | succ d ih =>
    intro i hi
    have hlt : i < L.length := by omega
    have c0 : (i : Int) < (L.length : Int) := by omega
    have hw := w1 i (by omega)
    rw [List.drop_eq_getElem_cons hlt, List.all_cons]
    have hp := isPart_ev L[i] (hL.2 _ (List.getElem_mem hlt))
    refine Ev.to (f := fun n => (blob_isPart.f n L[i]).bind fun t => if t = true then blob_IsPath.l0 n L (L.length : Int) ((i + 1 : Nat) : Int) else some false) (Ev.bindk hp ?_) fun n => ?_
    · refine Ev.ite (fun h => ?_) (fun h => ?_)
      · rw [h, Bool.true_and]
        exact ih (i + 1) (by omega)
      · rw [Bool.not_eq_true] at h
        rw [h, Bool.false_and]
        exact Ev.now _
    · simp only [blob_IsPath.l0]
      rw [if_pos c0, if_pos (Int.natCast_nonneg _), if_pos c0, rdS L i hlt, hw]
theorem isPath_ev (a : ByteArray) : Ev (fun n => blob_IsPath.f n a) (isPth a) := by
  unfold blob_IsPath.f isPth
  by_cases h1 : (a.size : Int) < 1
  · rw [if_neg (by omega)]
    refine Ev.ite_pos h1 (Ev.to (Ev.now _) fun n => ?_)
    simp only [blob_IsPath.j0]
    rw [if_pos trivial]
  · refine Ev.ite_neg h1 ?_
    by_cases h2 : (a.size : Int) > 200
    · rw [if_neg (by omega)]
      refine Ev.to (Ev.now _) fun n => ?_
      simp only [blob_IsPath.j0]
      rw [if_pos (decide_eq_true h2)]
    · rw [if_pos (by omega)]
      have key := isPath_l0 (sp a) (sp_short a (by omega)) (sp a).length 0 (by omega)
      rw [List.drop_zero] at key
      refine Ev.to key fun n => ?_
      simp only [blob_IsPath.j0]
      rw [if_neg (by simp; omega), split_some a (by omega), Option.bind_some]
      rfl
theorem refPath_l0 (L : List ByteArray) (hL : Short L) (d : Nat) : ∀ i : Nat, i + d = L.length → Ev (fun n => smithyardref1_IsPath.l0 n L i) ((L.drop i).all isP) := by
  have hl := hL.1
  induction d with
  | zero =>
    intro i hi
    have c0 : ¬ (i : Int) < (L.length : Int) := by omega
    rw [List.drop_eq_nil_of_le (by omega)]
    refine Ev.to (Ev.now _) fun n => ?_
    simp only [smithyardref1_IsPath.l0]
    rw [if_neg c0]
    rfl
  | succ d ih =>
    intro i hi
    have hlt : i < L.length := by omega
    have c0 : (i : Int) < (L.length : Int) := by omega
    have hw := w1 i (by omega)
    rw [List.drop_eq_getElem_cons hlt, List.all_cons]
    have hp := refisPart_ev L[i] (hL.2 _ (List.getElem_mem hlt))
    refine Ev.to (f := fun n => (smithyardref1_isPart.f n L[i]).bind fun t => if t = true then smithyardref1_IsPath.l0 n L ((i + 1 : Nat) : Int) else some false) (Ev.bindk hp ?_) fun n => ?_
    · refine Ev.ite (fun h => ?_) (fun h => ?_)
      · rw [h, Bool.true_and]
        exact ih (i + 1) (by omega)
      · rw [Bool.not_eq_true] at h
        rw [h, Bool.false_and]
        exact Ev.now _
    · simp only [smithyardref1_IsPath.l0]
      rw [if_pos c0, if_pos (Int.natCast_nonneg _), rdS L i hlt, hw]
theorem within_some (x a b : Int) : smithyardref1_within.f x a b = some (decide (a ≤ x ∧ x ≤ b)) := by
  unfold smithyardref1_within.f
  by_cases h : x ≥ a
  · rw [if_pos h]
    congr 1
    rw [decide_eq_decide]
    omega
  · rw [if_neg h]
    congr 1
    symm
    rw [decide_eq_false_iff_not]
    omega
theorem refIsPath_ev (a : ByteArray) : Ev (fun n => smithyardref1_IsPath.f n a) (isPth a) := by
  unfold smithyardref1_IsPath.f isPth
  refine Ev.bindc (within_some _ _ _) ?_
  by_cases h : 1 ≤ a.size ∧ a.size ≤ 200
  · rw [if_pos h]
    refine Ev.ite_pos (decide_eq_true (by omega)) (Ev.bindc (split_some a (by omega)) ?_)
    have key := refPath_l0 (sp a) (sp_short a h.2) (sp a).length 0 (by omega)
    rw [List.drop_zero] at key
    exact key
  · rw [if_neg h]
    exact Ev.ite_neg (by simp; omega) (Ev.now _)

/-! Patterns. -/
def pq (a : Int) : Bool := pb a || (decide (a = 42) || decide (a = 63))
def star2 : ByteArray := ⟨#[42, 42]⟩
def has2 (s : ByteArray) : Bool := Lib.contains s.data.toList star2.data.toList
theorem contains_some (s : ByteArray) (h : s.size < 4294967281) : strings_Contains.f s (⟨#[42, 42]⟩ : ByteArray) = some (has2 s) := by
  unfold strings_Contains.f
  rw [if_pos h]
  rfl
def pp (s : ByteArray) : Bool := if s.toList = ([42, 42] : List UInt8) then true else ((bytesOf s).all pq && (tl s && !has2 s))
def chk (a : ByteArray) : Int := if 1 ≤ a.size ∧ a.size ≤ 200 then (if (sp a).all pp = true then 0 else 3) else 3
theorem patPart_l0 (s : ByteArray) (hs : s.size < 4294967281) (d : Nat) : ∀ i : Nat, i + d = s.size → Ev (fun n => smithyardref1_isPatternPart.l0 n s i) (((bytesOf s).drop i).all pq && (tl s && !has2 s)) := by
  induction d with
  | zero =>
    intro i hi
    have c0 : ¬ (i : Int) < (s.size : Int) := by omega
    have e : i = s.size := by omega
    subst e
    rw [drop_none]
    refine Ev.to (Ev.now _) fun n => ?_
    simp only [smithyardref1_isPatternPart.l0]
    rw [if_neg c0, List.all_nil, Bool.true_and, contains_some s hs, Option.bind_some]
    unfold tl
    by_cases h1 : s.toList = ([] : List UInt8)
    · rw [if_pos h1, if_pos h1]
      rfl
    · rw [if_neg h1, if_neg h1]
      by_cases h2 : s.toList = ([46] : List UInt8)
      · rw [if_pos h2, if_pos h2]
        rfl
      · rw [if_neg h2, if_neg h2]
        by_cases h3 : s.toList = ([46, 46] : List UInt8)
        · rw [if_pos h3, h3]
          rfl
        · rw [if_neg h3]
          have : (s.toList != ([46, 46] : List UInt8)) = true := by simpa using h3
          rw [this, Bool.true_and]
  | succ d ih =>
    intro i hi
    have c0 : (i : Int) < (s.size : Int) := by omega
    have hw := w1 i (by omega)
    rw [drop_bytes s i (by omega), List.all_cons]
    have hp := (pb_both s i).1
    by_cases h : pq (bt s i) = true
    · rw [h, Bool.true_and]
      refine Ev.to (ih (i + 1) (by omega)) fun n => ?_
      simp only [smithyardref1_isPatternPart.l0]
      rw [if_pos c0, if_pos (Int.natCast_nonneg _), hp, Option.bind_some, hw]
      unfold pq at h
      by_cases h1 : pb (bt s i) = true
      · rw [if_pos h1]
      · rw [if_neg h1]
        by_cases h2 : bt s i = 42
        · rw [if_pos h2]
        · rw [if_neg h2]
          by_cases h3 : bt s i = 63
          · rw [if_pos h3]
          · simp [h1, h2, h3] at h
    · have h' : pq (bt s i) = false := by simpa using h
      rw [h', Bool.false_and, Bool.false_and]
      unfold pq at h'
      rw [Bool.or_eq_false_iff, Bool.or_eq_false_iff, decide_eq_false_iff_not, decide_eq_false_iff_not] at h'
      obtain ⟨h1, h2, h3⟩ := h'
      refine Ev.to (Ev.now _) fun n => ?_
      simp only [smithyardref1_isPatternPart.l0]
      rw [if_pos c0, if_pos (Int.natCast_nonneg _), hp, Option.bind_some, if_neg (by rw [h1]; simp), if_neg h2, if_neg h3]
theorem patPart_ev (s : ByteArray) (hs : s.size < 4294967281) : Ev (fun n => smithyardref1_isPatternPart.f n s) (pp s) := by
  unfold smithyardref1_isPatternPart.f pp
  by_cases h : s.toList = ([42, 42] : List UInt8)
  · rw [if_pos h]
    exact Ev.ite_pos h (Ev.now _)
  · rw [if_neg h]
    have := patPart_l0 s hs s.size 0 (by omega)
    exact Ev.ite_neg h this
theorem refChk_l0 (L : List ByteArray) (hl : L.length ≤ 140737488351232) (hL : ∀ x ∈ L, x.size < 4294967281) (d : Nat) : ∀ i : Nat, i + d = L.length → Ev (fun n => smithyardref1_CheckPattern.l0 n L i) (if (L.drop i).all pp = true then 0 else 3) := by
  induction d with
  | zero =>
    intro i hi
    have c0 : ¬ (i : Int) < (L.length : Int) := by omega
    rw [List.drop_eq_nil_of_le (by omega)]
    refine Ev.to (Ev.now _) fun n => ?_
    simp only [smithyardref1_CheckPattern.l0]
    rw [if_neg c0]
    rfl
  | succ d ih =>
    intro i hi
    have hlt : i < L.length := by omega
    have c0 : (i : Int) < (L.length : Int) := by omega
    have hw := w1 i (by omega)
    rw [List.drop_eq_getElem_cons hlt, List.all_cons]
    have hp := patPart_ev L[i] (hL _ (List.getElem_mem hlt))
    refine Ev.to (f := fun n => (smithyardref1_isPatternPart.f n L[i]).bind fun t => if t = true then smithyardref1_CheckPattern.l0 n L ((i + 1 : Nat) : Int) else some 3) (Ev.bindk hp ?_) fun n => ?_
    · refine Ev.ite (fun h => ?_) (fun h => ?_)
      · rw [h, Bool.true_and]
        exact ih (i + 1) (by omega)
      · rw [Bool.not_eq_true] at h
        rw [h, Bool.false_and]
        exact Ev.now _
    · simp only [smithyardref1_CheckPattern.l0]
      rw [if_pos c0, if_pos (Int.natCast_nonneg _), rdS L i hlt, hw]
theorem refChk_ev (a : ByteArray) : Ev (fun n => smithyardref1_CheckPattern.f n a) (chk a) := by
  unfold smithyardref1_CheckPattern.f chk
  refine Ev.bindc (within_some _ _ _) ?_
  by_cases h : 1 ≤ a.size ∧ a.size ≤ 200
  · rw [if_pos h]
    refine Ev.ite_pos (decide_eq_true (by omega)) (Ev.bindc (split_some a (by omega)) ?_)
    have key := refChk_l0 (sp a) (sp_short a h.2).1 (fun x hx => by have := sp_sizes a x hx; omega) (sp a).length 0 (by omega)
    rw [List.drop_zero] at key
    exact key
  · rw [if_neg h]
    exact Ev.ite_neg (by simp; omega) (Ev.now _)
/-- The program's loop over a part's bytes: on to the next part, or the fault. -/
theorem chk_l1 (s : ByteArray) (L : List ByteArray) (j : Int) (r : Int) (hs : s.size < 4294967281) (d : Nat) : ∀ i : Nat, i + d = s.size →
    Ev (fun n => blob_CheckPattern.l0 n L (L.length : Int) (wrap64 (j + 1))) r → Ev (fun n => blob_CheckPattern.l1 n s L (L.length : Int) j (s.size : Int) i) (if ((bytesOf s).drop i).all pq = true then r else 3) := by
  induction d with
  | zero =>
    intro i hi key
    have c0 : ¬ (i : Int) < (s.size : Int) := by omega
    have e : i = s.size := by omega
    subst e
    rw [drop_none, List.all_nil, if_pos rfl]
    refine Ev.to key fun n => ?_
    simp only [blob_CheckPattern.l1]
    rw [if_neg c0]
  | succ d ih =>
    intro i hi key
    have c0 : (i : Int) < (s.size : Int) := by omega
    have hw := w1 i (by omega)
    rw [drop_bytes s i (by omega), List.all_cons]
    have hp := (pb_both s i).2
    by_cases h : pq (bt s i) = true
    · rw [h, Bool.true_and]
      refine Ev.to (ih (i + 1) (by omega) key) fun n => ?_
      simp only [blob_CheckPattern.l1]
      rw [if_pos c0, if_pos (Int.natCast_nonneg _), if_pos c0, hp, Option.bind_some, hw]
      unfold pq at h
      by_cases h1 : pb (bt s i) = true
      · rw [if_pos h1]
      · rw [if_neg h1]
        by_cases h2 : bt s i = 42
        · rw [if_pos h2]
        · rw [if_neg h2]
          by_cases h3 : bt s i = 63
          · rw [if_pos h3]
          · simp [h1, h2, h3] at h
    · have h' : pq (bt s i) = false := by simpa using h
      rw [h', Bool.false_and, if_neg (by simp)]
      unfold pq at h'
      rw [Bool.or_eq_false_iff, Bool.or_eq_false_iff, decide_eq_false_iff_not, decide_eq_false_iff_not] at h'
      obtain ⟨h1, h2, h3⟩ := h'
      refine Ev.to (Ev.now _) fun n => ?_
      simp only [blob_CheckPattern.l1]
      rw [if_pos c0, if_pos (Int.natCast_nonneg _), if_pos c0, hp, Option.bind_some, if_neg (by rw [h1]; simp), if_neg h2, if_neg h3]
theorem chk_l0 (L : List ByteArray) (hl : L.length ≤ 140737488351232) (hL : ∀ x ∈ L, x.size < 4294967281) (d : Nat) : ∀ i : Nat, i + d = L.length → Ev (fun n => blob_CheckPattern.l0 n L (L.length : Int) i) (if (L.drop i).all pp = true then 0 else 3) := by
  induction d with
  | zero =>
    intro i hi
    have c0 : ¬ (i : Int) < (L.length : Int) := by omega
    rw [List.drop_eq_nil_of_le (by omega)]
    refine Ev.to (Ev.now _) fun n => ?_
    simp only [blob_CheckPattern.l0]
    rw [if_neg c0]
    rfl
  | succ d ih =>
    intro i hi
    have hlt : i < L.length := by omega
    have c0 : (i : Int) < (L.length : Int) := by omega
    have hw := w1 i (by omega)
    have hs := hL _ (List.getElem_mem hlt)
    have hr := rdS L i hlt
    rw [List.drop_eq_getElem_cons hlt, List.all_cons]
    have next := ih (i + 1) (by omega)
    rw [← hw] at next
    generalize L[i] = s at hs hr ⊢
    have bad : Ev (fun n => blob_CheckPattern.j2 n s L (L.length : Int) i true) 3 := by
      refine Ev.to (Ev.now _) fun n => ?_
      simp only [blob_CheckPattern.j2]
      rw [if_pos trivial]
    by_cases h0 : s.toList = ([42, 42] : List UInt8)
    · have e : pp s = true := by unfold pp; rw [if_pos h0]
      rw [e, Bool.true_and]
      refine Ev.to next fun n => ?_
      simp only [blob_CheckPattern.l0]
      rw [if_pos c0, if_pos (Int.natCast_nonneg _), if_pos c0, hr, if_pos h0]
    · have e : pp s = ((bytesOf s).all pq && (tl s && !has2 s)) := by unfold pp; rw [if_neg h0]
      by_cases h1 : s.toList = ([] : List UInt8)
      · have e1 : pp s = false := by rw [e]; unfold tl; rw [if_pos h1]; simp
        rw [e1, Bool.false_and, if_neg (by simp)]
        refine Ev.to bad fun n => ?_
        simp only [blob_CheckPattern.l0]
        rw [if_pos c0, if_pos (Int.natCast_nonneg _), if_pos c0, hr, if_neg h0, if_pos h1]
      · by_cases h2 : s.toList = ([46] : List UInt8)
        · have e1 : pp s = false := by rw [e]; unfold tl; rw [if_neg h1, if_pos h2]; simp
          rw [e1, Bool.false_and, if_neg (by simp)]
          refine Ev.to bad fun n => ?_
          simp only [blob_CheckPattern.l0]
          rw [if_pos c0, if_pos (Int.natCast_nonneg _), if_pos c0, hr, if_neg h0, if_neg h1, if_pos h2]
        · by_cases h3 : s.toList = ([46, 46] : List UInt8)
          · have e1 : pp s = false := by rw [e]; unfold tl; rw [if_neg h1, if_neg h2, h3]; simp
            rw [e1, Bool.false_and, if_neg (by simp)]
            refine Ev.to bad fun n => ?_
            simp only [blob_CheckPattern.l0]
            rw [if_pos c0, if_pos (Int.natCast_nonneg _), if_pos c0, hr, if_neg h0, if_neg h1, if_neg h2, if_pos h3]
          · have e1 : pp s = ((bytesOf s).all pq && !has2 s) := by
              have : (s.toList != ([46, 46] : List UInt8)) = true := by simpa using h3
              rw [e]; unfold tl; rw [if_neg h1, if_neg h2, this, Bool.true_and]
            have k2 : Ev (fun n => blob_CheckPattern.j2 n s L (L.length : Int) i (has2 s)) (if (pp s && (L.drop (i + 1)).all pp) = true then 0 else 3) := by
              by_cases h4 : has2 s = true
              · rw [e1, h4]
                simpa using bad
              · have h4' : has2 s = false := by simpa using h4
                have key := chk_l1 s L i _ hs s.size 0 (by omega) next
                rw [List.drop_zero] at key
                have e2 : (if (pp s && (L.drop (i + 1)).all pp) = true then (0 : Int) else 3) = (if (bytesOf s).all pq = true then (if (L.drop (i + 1)).all pp = true then 0 else 3) else 3) := by
                  rw [e1, h4']
                  cases (bytesOf s).all pq <;> simp
                rw [e2]
                refine Ev.to key fun n => ?_
                simp only [blob_CheckPattern.j2]
                rw [if_neg h4]
                rfl
            refine Ev.to k2 fun n => ?_
            simp only [blob_CheckPattern.l0]
            rw [if_pos c0, if_pos (Int.natCast_nonneg _), if_pos c0, hr, if_neg h0, if_neg h1, if_neg h2, if_neg h3, contains_some s hs, Option.bind_some]
theorem chk_ev (a : ByteArray) : Ev (fun n => blob_CheckPattern.f n a) (chk a) := by
  unfold blob_CheckPattern.f chk
  by_cases h1 : (a.size : Int) < 1
  · rw [if_neg (by omega)]
    refine Ev.ite_pos h1 (Ev.to (Ev.now _) fun n => ?_)
    simp only [blob_CheckPattern.j0]
    rw [if_pos trivial]
  · refine Ev.ite_neg h1 ?_
    by_cases h2 : (a.size : Int) > 200
    · rw [if_neg (by omega)]
      refine Ev.to (Ev.now _) fun n => ?_
      simp only [blob_CheckPattern.j0]
      rw [if_pos (decide_eq_true h2)]
    · rw [if_pos (by omega)]
      have key := chk_l0 (sp a) (sp_short a (by omega)).1 (fun x hx => by have := sp_sizes a x hx; omega) (sp a).length 0 (by omega)
      rw [List.drop_zero] at key
      refine Ev.to key fun n => ?_
      simp only [blob_CheckPattern.j0]
      rw [if_neg (by simp; omega), split_some a (by omega), Option.bind_some]
      rfl

end Go.Proofs.YtjdfbpjbobmgdaaDoor.PurePat
