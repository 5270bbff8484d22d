/- Laws of Config: copies, comparisons, the text of a configuration (this session's own). No condition but those in the statements. -/
import Derived.Test.YtklmkonpilkfnaaDoorPcD
namespace Go.Proofs.YtklmkonpilkfnaaDoor.Ev
open Go Go.RowKit
set_option linter.unusedVariables false
set_option linter.unusedSimpArgs false
theorem S25_spec (L : List ByteArray) (h : L.length * 16 ≤ 140737488355328) : Ultk (fun k => S25 k (L, ())) L := ⟨0, fun k _ => if_pos h⟩
theorem S14_spec (L : List Pair) (h : L.length * 32 ≤ 140737488355328) : Ultk (fun k => S14 k (L, ())) L := ⟨0, fun k _ => if_pos h⟩
theorem S13_spec (L : List Setting) (hL : SetSz L) : Ultk (fun k => S13 k (L, ())) L := by
  unfold S13
  have hlen := hL.len
  have h40 := hL.1
  refine Ult.forA (A := List Setting) (fun _ => Nat.le_refl _) L.length (fun a j => (a, (j : Int))) (fun a j => a = L.take j) (fun _ _ => L) [] (by simp) fun a j hj ha next => ?_
  subst ha
  dsimp only
  rw [iltL]
  by_cases hlt' : ¬ j < L.length
  · refine Ult.no (decide_eq_false hlt') (Ult.ret.eq ?_)
    exact List.take_of_length_le (by omega)
  have hlt : j < L.length := Decidable.not_not.1 hlt'
  refine Ult.yes (decide_eq_true hlt) (Ult.bindc (at?_nat hlt) ?_)
  obtain ⟨hs1, hs2, hs3⟩ := hL.2 _ (List.getElem_mem hlt)
  refine Ult.bind (Ult.call (f := fun k => S25 k (L[j].2, ())) (lp_le _ _ fun _ => Nat.le_refl _) (S25_spec L[j].2 (by omega))) ?_
  refine Ult.bindc (app?_ok (by simp only [List.length_take, List.length_cons, List.length_nil]; have := Nat.min_le_left j L.length; show (min j L.length + (0 + 1)) * 40 ≤ _; omega)) ?_
  rw [isucc hlt (by omega), show L.take j ++ [(L[j].1, L[j].2)] = L.take (j + 1) by rw [List.take_succ_eq_append_getElem hlt]]
  exact next _ hlt rfl
theorem S31_self (L : List ByteArray) (hL : L.length ≤ 9223372036854775807) : Ultk (fun k => S31 k (L, L, ())) true := by
  unfold S31
  refine Ult.no (by rw [ine_eq]; simp) ?_
  refine Ult.forI (fun _ => Nat.le_refl _) L.length (fun _ => true) fun j hj next => ?_
  dsimp only
  rw [iltL]
  by_cases hlt' : ¬ j < L.length
  · exact Ult.no (decide_eq_false hlt') Ult.ret
  have hlt : j < L.length := Decidable.not_not.1 hlt'
  refine Ult.yes (decide_eq_true hlt) (Ult.bindc (at?_nat hlt) (Ult.bindc (at?_nat hlt) (Ult.no (by rw [sne_eq]; simp) ?_)))
  rw [isucc hlt hL]
  exact next hlt
theorem S22_self (L : List Pair) (hL : L.length ≤ 9223372036854775807) : Ultk (fun k => S22 k (L, L, ())) true := by
  unfold S22
  refine Ult.no (by rw [ine_eq]; simp) ?_
  refine Ult.forI (fun _ => Nat.le_refl _) L.length (fun _ => true) fun j hj next => ?_
  dsimp only
  rw [iltL]
  by_cases hlt' : ¬ j < L.length
  · exact Ult.no (decide_eq_false hlt') Ult.ret
  have hlt : j < L.length := Decidable.not_not.1 hlt'
  refine Ult.yes (decide_eq_true hlt) (Ult.bindc (at?_nat hlt) (Ult.bindc (at?_nat hlt) (Ult.no (by rw [kbeq_pair]; simp [bnot]) ?_)))
  rw [isucc hlt hL]
  exact next hlt
theorem S21_self (L : List Setting) (hL : SetSz L) : Ultk (fun k => S21 k (L, L, ())) true := by
  unfold S21
  have hlen := hL.len
  refine Ult.no (by rw [ine_eq]; simp) ?_
  refine Ult.forI (fun _ => Nat.le_refl _) L.length (fun _ => true) fun j hj next => ?_
  dsimp only
  rw [iltL]
  by_cases hlt' : ¬ j < L.length
  · exact Ult.no (decide_eq_false hlt') Ult.ret
  have hlt : j < L.length := Decidable.not_not.1 hlt'
  obtain ⟨hs1, hs2, hs3⟩ := hL.2 _ (List.getElem_mem hlt)
  have hs2' := len_big hs2 (by omega)
  refine Ult.yes (decide_eq_true hlt) (Ult.bindc (at?_nat hlt) (Ult.bindc (at?_nat hlt) (Ult.no (by rw [sne_eq]; simp) (Ult.bindc (at?_nat hlt) (Ult.bindc (at?_nat hlt) ?_)))))
  refine Ult.bind (Ult.call (f := fun k => S31 k (L[j].2, L[j].2, ())) (lp_le _ _ fun _ => Nat.le_refl _) (S31_self L[j].2 (by omega))) (Ult.no rfl ?_)
  rw [isucc hlt (by omega)]
  exact next hlt

/-! ### what a right configuration is -/
theorem chkVals_ok {L : List ByteArray} : ∀ {seen : List ByteArray}, chkVals seen L = 0 → (∀ v ∈ L, isWord v = true ∧ v ∉ seen) ∧ L.Nodup := by
  induction L with
  | nil => intro seen _; exact ⟨fun v h => (by cases h), List.nodup_nil⟩
  | cons a L ih =>
    intro seen h
    rw [chkVals] at h
    split at h
    · cases h
    · rename_i h1
      split at h
      · cases h
      · rename_i h2
        obtain ⟨i1, i2⟩ := ih h
        refine ⟨fun v hv => ?_, List.nodup_cons.2 ⟨fun hm => (i1 a hm).2 (by simp), i2⟩⟩
        rcases List.mem_cons.1 hv with rfl | hv
        · exact ⟨by simpa using h1, fun hm => h2 (memB_iff.2 hm)⟩
        · exact ⟨(i1 v hv).1, fun hm => (i1 v hv).2 (by simp [hm])⟩
theorem notAbove_false {prev : Option ByteArray} {n : ByteArray} (h : ¬ notAbove prev n = true) : ∀ m, prev = some m → lt m n := by
  intro m hm
  subst hm
  have h : ¬ sle n m = true := h
  rw [sle_eq] at h
  unfold lt
  simpa using h
theorem lt_trans' {a b c : ByteArray} (h : lt a b) (h' : lt b c) : lt a c := List.lt_trans h h'
theorem lt_irr (a : ByteArray) : ¬ lt a a := List.lt_irrefl _
theorem chkSet_ok {L : List Setting} {b : Bool} : ∀ {C : List Pair} {prev : Option ByteArray}, chkSet L b prev C = 0 →
    (∀ p ∈ C, ∃ s, look L p.1 = some s ∧ p.2 ∈ s.2 ∧ (b = true → s.2.head? ≠ some p.2) ∧ ∀ m, prev = some m → lt m p.1) ∧ C.Pairwise (fun p q => lt p.1 q.1)
  | [], prev, _ => ⟨fun p h => (by cases h), List.Pairwise.nil⟩
  | p :: C, prev, h => by
    rw [chkSet] at h
    split at h
    · cases h
    · rename_i s hs
      split at h
      · cases h
      · rename_i h1
        split at h
        · cases h
        · rename_i h2
          split at h
          · cases h
          · rename_i h3
            obtain ⟨i1, i2⟩ := chkSet_ok h
            have hp := notAbove_false h3
            refine ⟨fun q hq => ?_, List.pairwise_cons.2 ⟨fun q hq => ?_, i2⟩⟩
            · rcases List.mem_cons.1 hq with rfl | hq
              · exact ⟨s, hs, memB_iff.1 (by simpa using h1), fun hb e => h2 ⟨hb, e⟩, hp⟩
              · obtain ⟨t, t1, t2, t3, t4⟩ := i1 q hq
                exact ⟨t, t1, t2, t3, fun m hm => lt_trans' (hp m hm) (t4 _ rfl)⟩
            · obtain ⟨t, t1, t2, t3, t4⟩ := i1 q hq
              exact t4 _ rfl
theorem pigeon {α : Type} : ∀ {A B : List α}, A.Nodup → (∀ a ∈ A, a ∈ B) → A.length ≤ B.length
  | [], _, _, _ => Nat.zero_le _
  | a :: A, B, hn, hs => by
    obtain ⟨s, t, rfl⟩ := List.append_of_mem (hs a (by simp))
    obtain ⟨h1, h2⟩ := List.nodup_cons.1 hn
    have := pigeon (B := s ++ t) h2 fun x hx => by
      have := hs x (by simp [hx])
      rcases List.mem_append.1 this with q | q
      · exact List.mem_append_left _ q
      · rcases List.mem_cons.1 q with rfl | q
        · exact absurd hx h1
        · exact List.mem_append_right _ q
    simp only [List.length_append, List.length_cons] at this ⊢
    omega
theorem cfg_len {L : List Setting} {b : Bool} {prev : Option ByteArray} {C : List Pair} (h : chkSet L b prev C = 0) : C.length ≤ L.length := by
  obtain ⟨h1, h2⟩ := chkSet_ok h
  have := pigeon (A := C.map (·.1)) (B := L.map (·.1)) (by
      unfold List.Nodup
      rw [List.pairwise_map]
      exact h2.imp fun {p q} (h : lt p.1 q.1) (e : p.1 = q.1) => lt_irr q.1 (e ▸ h)) fun a ha => by
    obtain ⟨p, hp, rfl⟩ := List.mem_map.1 ha
    obtain ⟨s, hs, _⟩ := h1 p hp
    obtain ⟨m1, m2⟩ := look_name hs
    exact List.mem_map.2 ⟨s, m1, m2⟩
  simpa using this
theorem cfg_words {L : List Setting} {b : Bool} {prev : Option ByteArray} {C : List Pair} (hL : chkSettings L = 0) (h : chkSet L b prev C = 0) : ∀ p ∈ C, isWord p.1 = true ∧ isWord p.2 = true := by
  intro p hp
  obtain ⟨s, hs, h2, _⟩ := (chkSet_ok h).1 p hp
  obtain ⟨m1, m2⟩ := look_name hs
  obtain ⟨_, w1, w2⟩ := (chkSettings_ne hL).2 s m1
  exact ⟨m2 ▸ w1, ((chkVals_ok w2).1 _ h2).1⟩
end Go.Proofs.YtklmkonpilkfnaaDoor.Ev
