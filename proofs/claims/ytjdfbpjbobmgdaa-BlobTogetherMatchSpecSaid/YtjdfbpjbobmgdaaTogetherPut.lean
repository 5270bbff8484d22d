/- The reference's put: a string into others in order, once. Conditions: the others are in order, and their number fits. -/
import Derived.Test.YtjdfbpjbobmgdaaQTogether
import Derived.Test.YtjdfbpjbobmgdaaBase
import Derived.Test.YtjdfbpjbobmgdaaStrOps
import Derived.Lib.SlicesS
namespace Go.Proofs.Ytjdfbpjbobmgdaa.PureTogether
open Go.RowKit Go.Proofs.Ytjdfbpjbobmgdaa.QTogether Go.Proofs.YtjdfbpjbobmgdaaW.PrintWords Go.Proofs.YtjdfbpjbobmgdaaW.PrintLast Go.Proofs.YtjdfbpjbobmgdaaW.PrintMore Go.Proofs.Ytjdfbpjbobmgdaa.Pure Go.Proofs.Ytjdfbpjbobmgdaa.StrOps

/-- Byte by byte. -/
def LtB (a b : ByteArray) : Prop := Op.bytesLess a.toList b.toList = true
instance (a b : ByteArray) : Decidable (LtB a b) := by unfold LtB; infer_instance
theorem toList_inj {a b : ByteArray} : a.toList = b.toList ↔ a = b := by
  rw [ByteArray.toList_eq, ByteArray.toList_eq]
  constructor
  · intro h
    exact ByteArray.ext (Array.ext' h)
  · rintro rfl
    rfl
theorem LtB.irr (a : ByteArray) : ¬ LtB a a := by unfold LtB; rw [less_irr]; simp
theorem LtB.asym {a b : ByteArray} (h : LtB a b) : ¬ LtB b a := by unfold LtB at h ⊢; rw [less_asym _ _ h]; simp
theorem LtB.tri (a b : ByteArray) : LtB a b ∨ a = b ∨ LtB b a := by
  unfold LtB
  cases h : Op.bytesLess a.toList b.toList with
  | true => exact .inl rfl
  | false =>
    cases h' : Op.bytesLess b.toList a.toList with
    | true => exact .inr (.inr rfl)
    | false => exact .inr (.inl (toList_inj.1 (less_total _ _ h h')))
theorem less_trans : ∀ x y z : List UInt8, Op.bytesLess x y = true → Op.bytesLess y z = true → Op.bytesLess x z = true
  | _, [], _, h, _ => by simp [Op.bytesLess] at h
  | _, _ :: _, [], _, h => by simp [Op.bytesLess] at h
  | [], _ :: _, _ :: _, _, _ => by simp [Op.bytesLess]
  | a :: x, b :: y, c :: z, h, h' => by
    simp only [Op.bytesLess, Bool.or_eq_true, decide_eq_true_eq, Bool.and_eq_true, beq_iff_eq] at h h' ⊢
    rcases h with h | ⟨rfl, h⟩
    · rcases h' with h' | ⟨rfl, h'⟩
      · exact .inl (UInt8.lt_trans h h')
      · exact .inl h
    · rcases h' with h' | ⟨rfl, h'⟩
      · exact .inl h'
      · exact .inr ⟨rfl, less_trans x y z h h'⟩
theorem LtB.trans {a b c : ByteArray} (h : LtB a b) (h' : LtB b c) : LtB a c := less_trans _ _ _ h h'
abbrev SS (l : List ByteArray) : Prop := l.Pairwise LtB
def ins : List ByteArray → ByteArray → List ByteArray
  | [], s => [s]
  | x :: l, s => if x = s then x :: l else if LtB s x then s :: x :: l else x :: ins l s
theorem mem_ins (l : List ByteArray) (s c : ByteArray) : c ∈ ins l s ↔ c = s ∨ c ∈ l := by
  induction l with
  | nil => simp [ins]
  | cons x l ih =>
    simp only [ins]
    split
    · rename_i h
      subst h
      simp
    · split
      · simp
      · simp only [List.mem_cons, ih]
        constructor
        · rintro (h | h | h)
          · exact .inr (.inl h)
          · exact .inl h
          · exact .inr (.inr h)
        · rintro (h | h | h)
          · exact .inr (.inl h)
          · exact .inl h
          · exact .inr (.inr h)
theorem ss_ins {l : List ByteArray} (h : SS l) (s : ByteArray) : SS (ins l s) := by
  induction l with
  | nil => simp [ins, SS]
  | cons x l ih =>
    obtain ⟨h1, h2⟩ := List.pairwise_cons.1 h
    simp only [ins]
    split
    · exact h
    · split
      · rename_i h3 h4
        refine List.pairwise_cons.2 ⟨fun y hy => ?_, h⟩
        rcases List.mem_cons.1 hy with rfl | hy
        · exact h4
        · exact h4.trans (h1 y hy)
      · rename_i h3 h4
        refine List.pairwise_cons.2 ⟨fun y hy => ?_, ih h2⟩
        rcases (mem_ins _ _ _).1 hy with rfl | hy
        · rcases LtB.tri x y with h5 | h5 | h5
          · exact h5
          · exact absurd h5 h3
          · exact absurd h5 h4
        · exact h1 y hy
theorem len_ins (l : List ByteArray) (s : ByteArray) : (ins l s).length ≤ l.length + 1 := by
  induction l with
  | nil => simp [ins]
  | cons x l ih =>
    simp only [ins]
    split
    · simp
    · split
      · simp
      · simp only [List.length_cons]
        omega
theorem ins_of_mem {l : List ByteArray} (h : SS l) {s : ByteArray} (hs : s ∈ l) : ins l s = l := by
  induction l with
  | nil => simp at hs
  | cons x l ih =>
    obtain ⟨h1, h2⟩ := List.pairwise_cons.1 h
    simp only [ins]
    split
    · rfl
    · rename_i h3
      rcases List.mem_cons.1 hs with rfl | hs
      · exact absurd rfl h3
      · rw [if_neg (h1 s hs).asym, ih h2 hs]
theorem ins_at {l : List ByteArray} {s : ByteArray} (h : SS l) : ∀ k : Nat, k ≤ l.length → (∀ x ∈ l.drop k, LtB s x) → (∀ x ∈ l.take k, LtB x s) → ins l s = l.take k ++ s :: l.drop k := by
  induction l with
  | nil => intro k hk _ _; simp [ins]
  | cons x l ih =>
    obtain ⟨h1, h2⟩ := List.pairwise_cons.1 h
    intro k hk hd ht
    cases k with
    | zero =>
      have hx := hd x (by simp)
      simp only [ins]
      rw [if_neg (by rintro rfl; exact hx.irr), if_pos hx]
      simp
    | succ k =>
      have hx := ht x (by simp)
      simp only [ins]
      rw [if_neg (by rintro rfl; exact hx.irr), if_neg hx.asym, ih h2 k (by simpa using hk) (fun y hy => hd y (by simpa using hy)) (fun y hy => ht y (by simp [hy]))]
      simp
theorem rdOf_lt (l : List ByteArray) (i : Nat) (h : i < l.length) : rdOf ByteArray.empty l (i : Int) = l[i] := by simp [rdOf, List.getD_eq_getElem?_getD, List.getElem?_eq_getElem h]
theorem put_l0 (l : List ByteArray) (s : ByteArray) (h : SS l) (hl : l.length + 1 < 8796093022208) (k : Nat) : k ≤ l.length → (∀ x ∈ l.drop k, LtB s x) → Ev (fun n => smithyardref1_put.l0 n l s k) (ins l s) := by
  induction k with
  | zero =>
    intro hk hd
    have e := ins_at h 0 (by omega) hd (by simp)
    rw [e]
    refine Ev.to (Ev.now _) fun n => ?_
    have h2 : ([] : List ByteArray).length + (List.take (0 : Nat) l).length < 8796093022208 := by simp
    have h3 : (([] : List ByteArray) ++ List.take (0 : Nat) l).length < 8796093022208 := by simp
    simp only [smithyardref1_put.l0]
    rw [if_neg (by omega), if_pos (by omega), if_pos (by omega)]
    simp only [Option.bind_some, Int.toNat_natCast]
    rw [if_pos h2, if_pos h3, if_pos (by simp; omega)]
    simp
  | succ k ih =>
    intro hk hd
    have hlt : k < l.length := by omega
    have hw : wrap64 (((k + 1 : Nat) : Int) - 1) = (k : Int) := by rw [w64 (by omega) (by omega)]; omega
    have hr := rdOf_lt l k hlt
    have hdk : l.drop k = l[k] :: l.drop (k + 1) := List.drop_eq_getElem_cons hlt
    by_cases h1 : LtB s l[k]
    · refine Ev.to (ih (by omega) (fun x hx => ?_)) fun n => ?_
      · rw [hdk] at hx
        rcases List.mem_cons.1 hx with rfl | hx
        · exact h1
        · exact hd x hx
      · simp only [smithyardref1_put.l0]
        rw [hw, hr, if_pos (by omega), if_pos (by omega), if_pos (by omega), if_pos (show Op.bytesLess s.toList l[k].toList = true from h1)]
    · by_cases h2 : l[k] = s
      · rw [ins_of_mem h (by rw [← h2]; exact List.getElem_mem hlt)]
        refine Ev.to (Ev.now _) fun n => ?_
        simp only [smithyardref1_put.l0]
        rw [hw, hr, if_pos (by omega), if_pos (by omega), if_pos (by omega), if_neg (show ¬ Op.bytesLess s.toList l[k].toList = true from h1), if_pos (toList_inj.2 h2)]
      · have hlk : LtB l[k] s := by
          rcases LtB.tri l[k] s with h3 | h3 | h3
          · exact h3
          · exact absurd h3 h2
          · exact absurd h3 h1
        have e := ins_at h (k + 1) hk hd (fun x hx => by
          obtain ⟨i, hi, rfl⟩ := List.mem_iff_getElem.1 hx
          rw [List.length_take] at hi
          rw [List.getElem_take]
          by_cases hik : i = k
          · subst hik
            exact hlk
          · exact (List.pairwise_iff_getElem.1 h i k (by omega) hlt (by omega)).trans hlk)
        rw [e]
        refine Ev.to (Ev.now _) fun n => ?_
        have hlt2 : (List.take (k + 1) l).length ≤ l.length := by rw [List.length_take]; omega
        simp only [smithyardref1_put.l0]
        rw [hw, hr, if_pos (by omega), if_pos (by omega), if_pos (by omega), if_neg (show ¬ Op.bytesLess s.toList l[k].toList = true from h1), if_neg (fun h3 => h2 (toList_inj.1 h3)), if_pos (by omega), if_pos (by omega)]
        simp only [Option.bind_some, Int.toNat_natCast]
        rw [if_pos (by simp; omega), if_pos (by simp; omega), if_pos (by simp; omega)]
        simp
theorem put_ev (l : List ByteArray) (s : ByteArray) (h : SS l) (hl : l.length + 1 < 8796093022208) : Ev (fun n => smithyardref1_put.f n l s) (ins l s) := by
  have := put_l0 l s h hl l.length (by omega) (by simp)
  exact this

end Go.Proofs.Ytjdfbpjbobmgdaa.PureTogether
