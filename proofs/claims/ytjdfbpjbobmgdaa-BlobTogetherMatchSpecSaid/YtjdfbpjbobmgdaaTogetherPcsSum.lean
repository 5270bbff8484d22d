/- What is known of the plain pieces: each is positive, and together they are the bytes' number. -/
import Derived.Test.YtjdfbpjbobmgdaaTogetherPcsI
namespace Go.Proofs.Ytjdfbpjbobmgdaa.PureTogether
open Go.RowKit Go.Proofs.Ytjdfbpjbobmgdaa.QTogether Go.Proofs.YtjdfbpjbobmgdaaW.PrintWords Go.Proofs.YtjdfbpjbobmgdaaW.PrintLast Go.Proofs.YtjdfbpjbobmgdaaW.PrintMore Go.Proofs.Ytjdfbpjbobmgdaa.Pure

theorem rest_sum (b : List Int) (least most B : Int) (d : Nat) : ∀ s : Int, 0 ≤ s → s ≤ (b.length : Int) - d → (d = 0 → s = b.length) → d ≤ b.length →
    (∀ n ∈ rest b least most B d s, 1 ≤ n) ∧ (rest b least most B d s).sum = (b.length : Int) - s := by
  induction d with
  | zero =>
    intro s h0 h1 h2 h3
    have := h2 rfl
    simp only [rest]
    refine ⟨by simp, ?_⟩
    simp
    omega
  | succ d ih =>
    intro s h0 h1 h2 h3
    rw [rest]
    by_cases c : ((b.length : Int) - d) - s = most ∨ d = 0 ∨ (least ≤ ((b.length : Int) - d) - s ∧ roll b (b.length - d) % B = 0)
    · rw [if_pos c]
      obtain ⟨i1, i2⟩ := ih ((b.length : Int) - d) (by omega) (by omega) (by omega) (by omega)
      refine ⟨fun n hn => ?_, ?_⟩
      · rcases List.mem_cons.1 hn with rfl | hn
        · omega
        · exact i1 n hn
      · rw [List.sum_cons, i2]
        omega
    · rw [if_neg c]
      have hd : ¬ d = 0 := fun h => c (.inr (.inl h))
      exact ih s h0 (by omega) (fun h => absurd h hd) (by omega)
theorem pieces_sum (b : List Int) (least bits most : Int) : (∀ n ∈ pieces b least bits most, 1 ≤ n) ∧ (pieces b least bits most).sum = b.length := by
  have := rest_sum b least most (2 ^ bits.toNat) b.length 0 (by omega) (by omega) (by omega) (by omega)
  simpa [pieces] using this

/-- The pieces of some bytes. -/
def chunks : List Int → List Int → List ByteArray
  | [], _ => []
  | n :: x, a => strOfNums (a.take n.toNat) :: chunks x (a.drop n.toNat)
/-- How many bytes lie in pieces that are known. -/
def common (K : List ByteArray) : List ByteArray → Int
  | [] => 0
  | c :: cs => (if c ∈ K then (c.size : Int) else 0) + common K cs
theorem common_bounds (K : List ByteArray) (cs : List ByteArray) : 0 ≤ common K cs ∧ common K cs ≤ (cs.map fun c => (c.size : Int)).sum := by
  induction cs with
  | nil => simp [common]
  | cons c cs ih =>
    simp only [common, List.map_cons, List.sum_cons]
    split <;> omega
theorem common_all (K : List ByteArray) (cs : List ByteArray) (h : ∀ c ∈ cs, c ∈ K) : common K cs = (cs.map fun c => (c.size : Int)).sum := by
  induction cs with
  | nil => simp [common]
  | cons c cs ih =>
    simp only [common, List.map_cons, List.sum_cons]
    rw [if_pos (h c (by simp)), ih (fun x hx => h x (by simp [hx]))]
theorem size_str (l : List Int) : (strOfNums l).size = l.length := by simp [strOfNums, ByteArray.size]
theorem chunks_size (x : List Int) : ∀ a : List Int, (∀ n ∈ x, 0 ≤ n) → x.sum = a.length → ((chunks x a).map fun c => (c.size : Int)).sum = a.length := by
  induction x with
  | nil => intro a _ h; simpa [chunks] using h
  | cons n x ih =>
    intro a h0 hs
    rw [List.sum_cons] at hs
    have hn := h0 n (by simp)
    have hx : 0 ≤ x.sum := by
      clear ih hs
      have : ∀ n ∈ x, 0 ≤ n := fun m hm => h0 m (by simp [hm])
      clear h0
      induction x with
      | nil => simp
      | cons m x ih2 =>
        rw [List.sum_cons]
        have := this m (by simp)
        have := ih2 (fun p hp => by rename_i h; exact h p (by simp [hp]))
        omega
    simp only [chunks, List.map_cons, List.sum_cons, size_str, List.length_take]
    rw [ih (a.drop n.toNat) (fun m hm => h0 m (by simp [hm])) (by rw [List.length_drop]; omega), List.length_drop]
    omega

end Go.Proofs.Ytjdfbpjbobmgdaa.PureTogether
