/- Plain laws of strings.Split and strings.Cut at one byte (this session's own). No condition but those in the statements. -/
import Derived.Test.YtklmkonpilkfnaaDoorPw
import Derived.Lib.SplitLaws
import Derived.Lib.IndexMore
import Derived.Lib.Join
namespace Go.Proofs.YtklmkonpilkfnaaDoor.Ev
open Go Go.RowKit
set_option linter.unusedVariables false
set_option linter.unusedSimpArgs false
def mkB (l : List UInt8) : ByteArray := ⟨l.toArray⟩
theorem mkB_data (l : List UInt8) : (mkB l).data.toList = l := by simp [mkB]
theorem mkB_of (s : ByteArray) : mkB s.data.toList = s := bytes_ext (mkB_data _)
theorem mkB_size (l : List UInt8) : (mkB l).size = l.length := rfl
theorem size_list (s : ByteArray) : s.size = s.data.toList.length := by simp
/-- cut at each c -/
def splitL (c : UInt8) : List UInt8 → List (List UInt8)
  | [] => [[]]
  | b :: r => if b = c then [] :: splitL c r else match splitL c r with
    | [] => [[b]]
    | p :: ps => (b :: p) :: ps
theorem splitL_ne (c : UInt8) : ∀ l, splitL c l ≠ []
  | [] => by simp [splitL]
  | b :: r => by
    rw [splitL]
    split
    · simp
    · split <;> simp
theorem splitL_none {c : UInt8} : ∀ {l : List UInt8}, c ∉ l → splitL c l = [l]
  | [], _ => rfl
  | b :: r, h => by
    rw [splitL, if_neg (fun e => h (by simp [e])), splitL_none (fun m => h (by simp [m]))]
theorem splitL_cons {c : UInt8} : ∀ {p : List UInt8} (r : List UInt8), c ∉ p → splitL c (p ++ c :: r) = p :: splitL c r
  | [], r, _ => by simp [splitL]
  | b :: p, r, h => by
    rw [List.cons_append, splitL, if_neg (fun e => h (by simp [e])), splitL_cons r (fun m => h (by simp [m]))]
theorem first_of {c : UInt8} : ∀ {l : List UInt8}, c ∈ l → ∃ p r, l = p ++ c :: r ∧ c ∉ p
  | b :: l, h => by
    by_cases e : b = c
    · exact ⟨[], l, by simp [e], by simp⟩
    · have : c ∈ l := by rcases List.mem_cons.1 h with q | q; exact absurd q.symm e; exact q
      obtain ⟨p, r, rfl, h2⟩ := first_of this
      refine ⟨b :: p, r, rfl, fun m => ?_⟩
      rcases List.mem_cons.1 m with q | q
      · exact e q.symm
      · exact h2 q
theorem splitL_parts {c : UInt8} : ∀ (n : Nat) {l : List UInt8}, l.length ≤ n → ∀ p ∈ splitL c l, c ∉ p ∧ p.length ≤ l.length
  | n, l, hn, p, hp => by
    by_cases h : c ∈ l
    · obtain ⟨a, r, rfl, ha⟩ := first_of h
      rw [splitL_cons r ha] at hp
      rcases List.mem_cons.1 hp with rfl | hp
      · exact ⟨ha, by simp⟩
      · cases n with
        | zero => simp at hn
        | succ n =>
          obtain ⟨h1, h2⟩ := splitL_parts n (l := r) (by simp only [List.length_append, List.length_cons] at hn; omega) p hp
          exact ⟨h1, by simp only [List.length_append, List.length_cons]; omega⟩
    · rw [splitL_none h] at hp
      obtain rfl : p = l := by simpa using hp
      exact ⟨h, Nat.le_refl _⟩
theorem splitL_len {c : UInt8} : ∀ (l : List UInt8), (splitL c l).length ≤ l.length + 1
  | [] => by simp [splitL]
  | b :: r => by
    have ih := splitL_len (c := c) r
    rw [splitL]
    split
    · simp only [List.length_cons]; omega
    · split
      · simp
      · rename_i p ps e
        rw [e] at ih
        simp only [List.length_cons] at ih ⊢
        omega
theorem index_none {c : UInt8} : ∀ {l : List UInt8}, c ∉ l → Lib.index l [c] = -1
  | [], _ => rfl
  | b :: r, h => by
    have hb : b ≠ c := fun e => h (by simp [e])
    have := index_none (fun m => h (by simp [m]) : c ∉ r)
    rw [Lib.index, this]
    have hp : ([c] : List UInt8).isPrefixOf (b :: r) = false := by simp [List.isPrefixOf, Ne.symm hb]
    rw [hp]; simp
theorem index_first {c : UInt8} : ∀ {p : List UInt8} (r : List UInt8), c ∉ p → Lib.index (p ++ c :: r) [c] = (p.length : Int)
  | [], r, _ => by
    rw [List.nil_append, Lib.index]
    have hp : ([c] : List UInt8).isPrefixOf (c :: r) = true := by simp [List.isPrefixOf]
    rw [hp]; simp
  | b :: p, r, h => by
    have hb : b ≠ c := fun e => h (by simp [e])
    have ih := index_first (p := p) r (fun m => h (List.mem_cons_of_mem _ m))
    have ih : Lib.index (p ++ c :: r) [c] = (p.length : Int) := ih
    rw [List.cons_append, Lib.index, ih]
    have hp : ([c] : List UInt8).isPrefixOf (b :: (p ++ c :: r)) = false := by simp [List.isPrefixOf, Ne.symm hb]
    rw [hp]
    have : ¬ ((p.length : Int) == -1) = true := by simp <;> omega
    rw [if_neg (by simp), if_neg this]
    simp
theorem count_none {c : UInt8} {l : List UInt8} (h : c ∉ l) : Lib.count l [c] = 0 := by
  rw [Lib.count_one]; exact List.count_eq_zero.2 h
theorem count_first {c : UInt8} {p : List UInt8} (r : List UInt8) (h : c ∉ p) : Lib.count (p ++ c :: r) [c] = Lib.count r [c] + 1 := by
  rw [Lib.count_one, Lib.count_one, List.count_append, List.count_cons_self, List.count_eq_zero.2 h]; omega
theorem splitK_one {c : UInt8} : ∀ (n : Nat) {l : List UInt8}, l.length ≤ n → Lib.splitK [c] 0 (Lib.count l [c]) l = splitL c l
  | n, l, hn => by
    by_cases h : c ∈ l
    · obtain ⟨a, r, rfl, ha⟩ := first_of h
      rw [splitL_cons r ha, count_first r ha, Lib.splitK, index_first r ha]
      have : ¬ ((a.length : Int) == -1) = true := by simp <;> omega
      rw [if_neg this]
      cases n with
      | zero => simp at hn
      | succ n =>
        have ih := splitK_one (c := c) n (l := r) (by simp only [List.length_append, List.length_cons] at hn; omega)
        simp only [Int.toNat_natCast, Nat.add_zero, List.length_cons, List.length_nil, Nat.zero_add]
        rw [List.take_left' rfl, show (a ++ c :: r).drop (a.length + 1) = r by simp [← List.drop_drop], ih]
    · rw [splitL_none h, count_none h]; rfl
/-- strings.Split at one byte -/
theorem split_one (c : UInt8) (s : ByteArray) : Lib.splitB ⟨#[c]⟩ 0 (Lib.countB s ⟨#[c]⟩) s = (splitL c s.data.toList).map mkB := by
  have h := Lib.splitB_data ⟨#[c]⟩ 0 (Lib.countB s ⟨#[c]⟩) s
  have h2 : Lib.splitK [c] 0 (Lib.countB s ⟨#[c]⟩) s.data.toList = splitL c s.data.toList := splitK_one _ (Nat.le_refl _)
  rw [show (⟨#[c]⟩ : ByteArray).data.toList = [c] from rfl, h2] at h
  rw [← h, List.map_map]
  conv => lhs; rw [← List.map_id (Lib.splitB _ _ _ _)]
  exact List.map_congr_left fun x _ => (mkB_of x).symm
theorem cut_none {c : UInt8} {l : List UInt8} (h : c ∉ l) : Lib.cut l [c] = (l, [], false) := by
  unfold Lib.cut
  rw [index_none h, if_neg (by decide)]
theorem cut_first {c : UInt8} {p : List UInt8} (r : List UInt8) (h : c ∉ p) : Lib.cut (p ++ c :: r) [c] = (p, r, true) := by
  unfold Lib.cut
  rw [index_first r h, if_pos (Int.natCast_nonneg _)]
  simp only [Int.toNat_natCast, List.length_cons, List.length_nil, Nat.zero_add]
  rw [List.take_left' rfl, show (p ++ c :: r).drop (p.length + 1) = r by simp [← List.drop_drop]]
theorem joinTail_cons (sep : List UInt8) (y : List UInt8) (r : List (List UInt8)) : Lib.joinTail sep (y :: r) = sep ++ y ++ Lib.joinTail sep r := by simp [Lib.joinTail]
/-- what was joined is split again -/
theorem splitL_join {c : UInt8} : ∀ (r : List (List UInt8)) (x : List UInt8), c ∉ x → (∀ y ∈ r, c ∉ y) → splitL c (Lib.join (x :: r) [c]) = x :: r
  | [], x, hx, _ => by rw [Lib.join_one, splitL_none hx]
  | y :: r, x, hx, hr => by
    have ih := splitL_join r y (hr y (by simp)) fun z hz => hr z (by simp [hz])
    rw [Lib.join_cons] at ih ⊢
    rw [joinTail_cons, List.append_assoc, List.singleton_append, splitL_cons _ hx, ih]
end Go.Proofs.YtklmkonpilkfnaaDoor.Ev
