/- Pieces: what the reference's PiecesOf computes, as one plain function: where the bytes are at most 2000000, least, bits and most in their ranges. -/
import Derived.Test.YtjdfbpjbobmgdaaQTogether
import Derived.Test.YtjdfbpjbobmgdaaTogetherPcsI
set_option linter.unusedSimpArgs false
namespace Go.Proofs.Ytjdfbpjbobmgdaa.PureTogether
open Go.RowKit Go.Proofs.Ytjdfbpjbobmgdaa.QTogether Go.Proofs.YtjdfbpjbobmgdaaW.PrintWords Go.Proofs.YtjdfbpjbobmgdaaW.PrintLast Go.Proofs.YtjdfbpjbobmgdaaW.PrintMore Go.Proofs.Ytjdfbpjbobmgdaa.Pure

section
variable (b : List Int) (least bits most : Int) (hb : b.length ≤ 2000000) (hl1 : 1 ≤ least) (hl2 : least ≤ most) (hb1 : 0 ≤ bits) (hb2 : bits ≤ 20) (hm : most ≤ 100000)
include hb hl1 hl2 hb1 hb2 hm
/-! ### the reference -/
omit hl1 hl2 hb1 hb2 hm in
theorem rolled_l0 (p : Nat) (hp : p ≤ b.length) (d : Nat) : ∀ (i : Nat) (h : Int), i + d = p → Ev (fun k => smithyardref1_rolled.l0 k b p h i) (((b.take p).drop i).foldl (fun h c => (h * 31 + c) % 4294967296) h) := by
  induction d with
  | zero =>
    intro i h hi
    have e : (b.take p).drop i = [] := List.drop_eq_nil_of_le (by rw [List.length_take]; omega)
    rw [e]
    refine Ev.to (Ev.now _) fun k => ?_
    simp (disch := omega) only [smithyardref1_rolled.l0, if_neg]
    rfl
  | succ d ih =>
    intro i h hi
    have hlt : i < b.length := by omega
    have e : (b.take p).drop i = b[i] :: (b.take p).drop (i + 1) := by
      rw [List.drop_eq_getElem_cons (by rw [List.length_take]; omega), List.getElem_take]
    rw [e, List.foldl_cons]
    refine Ev.to (ih (i + 1) _ (by omega)) fun k => ?_
    simp (disch := omega) only [smithyardref1_rolled.l0, if_pos, w64, rd_lt b i hlt]
    rfl
omit b hb hl1 hl2 hb1 hb2 hm in
theorem fold_mod (l : List Int) : ∀ h : Int, l.foldl (fun h c => (h * 31 + c) % 4294967296) (h % 4294967296) = (l.foldl (fun h c => h * 31 + c) h) % 4294967296 := by
  induction l with
  | nil => intro h; rfl
  | cons a l ih =>
    intro h
    rw [List.foldl_cons, List.foldl_cons, ← ih]
    congr 1
    omega
omit hl1 hl2 hb1 hb2 hm in
theorem rolled_ev (p : Nat) (hp : p ≤ b.length) : Ev (fun k => smithyardref1_rolled.f k b p) (roll b p) := by
  have key := rolled_l0 b hb p hp (p - (p - 16)) (p - 16) 0 (by omega)
  have e : ((b.take p).drop (p - 16)).foldl (fun h c => (h * 31 + c) % 4294967296) 0 = roll b p := by
    have := fold_mod ((b.take p).drop (p - 16)) 0
    exact this
  rw [e] at key
  have e2 : mx 0 (wrap64 ((p : Int) - 16)) = ((p - 16 : Nat) : Int) := by rw [w64 (by omega) (by omega)]; unfold mx; omega
  unfold smithyardref1_rolled.f
  rw [e2]
  exact key
theorem of_l0 (d : Nat) : ∀ (p : Nat) (out : List Int) (s : Int), p + d = b.length → 0 ≤ s → s ≤ p → p - s < most → out.length ≤ p →
    Ev (fun k => smithyardref1_PiecesOf.l0 k b least bits most out s ((p : Int) + 1)) (out ++ rest b least most (2 ^ bits.toNat) d s) := by
  obtain ⟨es, p0, p1⟩ := shl_one bits hb1 hb2
  induction d with
  | zero =>
    intro p out s hp h0 h1 h2 h3
    rw [rest, List.append_nil]
    refine Ev.to (Ev.now _) fun k => ?_
    simp (disch := omega) only [smithyardref1_PiecesOf.l0, if_neg]
  | succ d ih =>
    intro p out s hp h0 h1 h2 h3
    have hd : b.length - d = p + 1 := by omega
    have hdi : (b.length : Int) - d = (p : Int) + 1 := by omega
    have hr := roll_range b (p + 1)
    have hro := rolled_ev b hb (p + 1) (by omega)
    have ht : Int.tmod (roll b (p + 1)) (2 ^ bits.toNat) = roll b (p + 1) % 2 ^ bits.toNat := Int.tmod_eq_emod_of_nonneg hr.1
    have cutway : ∀ (c : (p : Int) + 1 - s = most ∨ d = 0 ∨ (least ≤ (p : Int) + 1 - s ∧ roll b (p + 1) % 2 ^ bits.toNat = 0)),
        Ev (fun k => smithyardref1_PiecesOf.l0 k b least bits most (out ++ [(p : Int) + 1 - s]) ((p : Int) + 1) ((p : Int) + 1 + 1)) (out ++ rest b least most (2 ^ bits.toNat) (d + 1) s) := by
      intro c
      have key := ih (p + 1) (out ++ [(p : Int) + 1 - s]) ((p : Int) + 1) (by omega) (by omega) (by omega) (by omega) (by simp; omega)
      rw [rest, hd, hdi, if_pos c]
      rw [List.append_assoc] at key
      exact key
    have goway : ∀ (c : ¬ ((p : Int) + 1 - s = most ∨ d = 0 ∨ (least ≤ (p : Int) + 1 - s ∧ roll b (p + 1) % 2 ^ bits.toNat = 0))),
        Ev (fun k => smithyardref1_PiecesOf.l0 k b least bits most out s ((p : Int) + 1 + 1)) (out ++ rest b least most (2 ^ bits.toNat) (d + 1) s) := by
      intro c
      have key := ih (p + 1) out s (by omega) (by omega) (by omega) (by omega) (by omega)
      rw [rest, hd, hdi, if_neg c]
      exact key
    by_cases c3 : (p : Int) + 1 - s = most
    · refine Ev.to (cutway (.inl c3)) fun k => ?_
      simp (disch := omega) only [smithyardref1_PiecesOf.l0, if_pos, w64]
    · by_cases cz : d = 0
      · refine Ev.to (cutway (.inr (.inl cz))) fun k => ?_
        simp (disch := omega) only [smithyardref1_PiecesOf.l0, if_pos, if_neg, w64]
      · by_cases c1 : least ≤ (p : Int) + 1 - s
        · have hB : ¬ ((2 : Int) ^ bits.toNat = 0) := by omega
          refine Ev.to (f := fun k => (smithyardref1_rolled.f k b ((p + 1 : Nat) : Int)).bind fun t => (if (Int.tmod t (2 ^ bits.toNat)) = 0 then smithyardref1_PiecesOf.l0 k b least bits most (out ++ [(p : Int) + 1 - s]) ((p : Int) + 1) ((p : Int) + 1 + 1) else smithyardref1_PiecesOf.l0 k b least bits most out s ((p : Int) + 1 + 1))) ?_ fun k => ?_
          · refine Ev.bindk hro ?_
            rw [ht]
            refine Ev.ite (fun c => cutway (.inr (.inr ⟨c1, c⟩))) (fun c => goway ?_)
            rintro (h | h | h)
            · exact c3 h
            · exact cz h
            · exact c h.2
          · simp (disch := omega) only [smithyardref1_PiecesOf.l0, if_pos, if_neg, w64, es]
            rfl
        · refine Ev.to (goway (by omega)) fun k => ?_
          simp (disch := omega) only [smithyardref1_PiecesOf.l0, if_pos, if_neg, w64]
theorem of_ev : Ev (fun k => smithyardref1_PiecesOf.f k b least bits most) (pieces b least bits most) := by
  have key := of_l0 b least bits most hb hl1 hl2 hb1 hb2 hm b.length 0 [] 0 (by omega) (by omega) (by omega) (by omega) (by simp)
  exact key
end

end Go.Proofs.Ytjdfbpjbobmgdaa.PureTogether
