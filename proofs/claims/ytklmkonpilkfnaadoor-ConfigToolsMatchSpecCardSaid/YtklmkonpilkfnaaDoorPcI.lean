/- Laws of Config: copies of worlds, worlds compared with themselves (this session's own). No condition but those in the statements. -/
import Derived.Test.YtklmkonpilkfnaaDoorPcH
namespace Go.Proofs.YtklmkonpilkfnaaDoor.Ev
open Go Go.RowKit
set_option linter.unusedVariables false
set_option linter.unusedSimpArgs false
variable {ι R α X : Type} {l : ι → Nat}
theorem Ult.copyI {st : ι → (X → Option R) → X → Option R} {k : ι → Nat} (hk : ∀ i, l i ≤ k i) (L : List α) (mk : List α → Nat → X) (r : R)
    (hd : Ult (lp l) (fun p => st p.1 (loopN p.2 (st p.1)) (mk L L.length)) r)
    (hs : ∀ j, (h : j < L.length) → Ult (lp l) (fun p => loopN p.2 (st p.1) (mk (L.take j ++ [L[j]]) (j + 1))) r → Ult (lp l) (fun p => st p.1 (loopN p.2 (st p.1)) (mk (L.take j) j)) r) :
    Ult l (fun i => loopN (k i) (st i) (mk [] 0)) r := by
  refine Ult.forA (A := List α) hk L.length mk (fun v j => v = L.take j) (fun _ _ => r) [] (by simp) fun v j hj hv next => ?_
  subst hv
  by_cases hlt' : ¬ j < L.length
  · have : j = L.length := by omega
    subst this
    rw [List.take_of_length_le (Nat.le_refl _)]
    exact hd
  have hlt : j < L.length := Decidable.not_not.1 hlt'
  refine hs j hlt ?_
  rw [show L.take j ++ [L[j]] = L.take (j + 1) by rw [List.take_succ_eq_append_getElem hlt]]
  exact next _ hlt rfl
theorem iltE (L : List α) : ilt (L.length : Int) (len L) = false := by rw [iltL]; simp
theorem takeL {L : List α} {j : Nat} (h : j < L.length) : (L.take j).length = j := by rw [List.length_take]; omega

theorem S35_spec (p : Condition) (h1 : PairSz p.2.1) (h2 : PairSz p.2.2) : Ultk (fun k => S35 k (p, ())) p := by
  unfold S35
  exact Ult.bind (S14_spec p.2.1 (by have := h1.1; omega)) (Ult.bind (S14_spec p.2.2 (by have := h2.1; omega)) Ult.ret)
theorem S26_spec (p : Platform) (h1 : PairSz p.2) : Ultk (fun k => S26 k (p, ())) p := by
  unfold S26
  exact Ult.bind (S14_spec p.2 (by have := h1.1; omega)) Ult.ret
theorem S64_spec (p : Transition) (h1 : PairSz p.2.1) (h2 : StrsSz p.2.2) : Ultk (fun k => S64 k (p, ())) p := by
  unfold S64
  exact Ult.bind (S14_spec p.2.1 (by have := h1.1; omega)) (Ult.bind (S25_spec p.2.2 (by have := h2.1; omega)) Ult.ret)
theorem S24_spec (x : CWorld) (hx : WorldSz x) : Ultk (fun k => S24 k (x, ())) x := by
  obtain ⟨a, b, c, d, e⟩ := x
  obtain ⟨ha, hb, hc, hd, he⟩ := hx
  dsimp only at ha hb hc hd he
  have lb := len_big hb.1 (by omega)
  have lc := len_big hc.1 (by omega)
  have ld := len_big hd.1 (by omega)
  have le := len_big he.1 (by omega)
  have mb := hb.1
  have mc := hc.1
  have md := hd.1
  have me := he.1
  unfold S24
  try dsimp only
  refine Ult.bind (S13_spec a ha) ?_
  refine Ult.copyI (fun _ => Nat.le_refl _) b (fun v j => ((j : Int), a, v, ([] : List Platform), ([] : List Tool), ([] : List Transition))) _ ?_ fun j hlt next => ?_
  rotate_left
  · try dsimp only
    rw [iltL]
    obtain ⟨s1, s2, s3⟩ := hb.2 _ (List.getElem_mem hlt)
    refine Ult.yes (decide_eq_true hlt) (Ult.bindc (at?_nat hlt) ?_)
    refine Ult.bind (Ult.call (f := fun k => S35 k (b[j], ())) (lp_le _ _ fun _ => Nat.le_refl _) (S35_spec b[j] s2 s3)) ?_
    refine Ult.bindc (app?_ok (by rw [takeL hlt]; show (j + 1) * 64 ≤ _; omega)) ?_
    rw [isucc hlt (by omega)]
    exact next
  try dsimp only
  refine Ult.no (iltE _) ?_
  refine Ult.copyI (lp_le _ _ fun _ => Nat.le_refl _) c (fun v j => ((j : Int), a, b, v, ([] : List Tool), ([] : List Transition))) _ ?_ fun j hlt next => ?_
  rotate_left
  · try dsimp only
    rw [iltL]
    obtain ⟨s1, s2⟩ := hc.2 _ (List.getElem_mem hlt)
    refine Ult.yes (decide_eq_true hlt) (Ult.bindc (at?_nat hlt) ?_)
    refine Ult.bind (Ult.call (f := fun k => S26 k (c[j], ())) (lp_le _ _ (lp_le _ _ fun _ => Nat.le_refl _)) (S26_spec c[j] s2)) ?_
    refine Ult.bindc (app?_ok (by rw [takeL hlt]; show (j + 1) * 40 ≤ _; omega)) ?_
    rw [isucc hlt (by omega)]
    exact next
  try dsimp only
  refine Ult.no (iltE _) ?_
  refine Ult.copyI (lp_le _ _ (lp_le _ _ fun _ => Nat.le_refl _)) d (fun v j => ((j : Int), a, b, c, v, ([] : List Transition))) _ ?_ fun j hlt next => ?_
  rotate_left
  · try dsimp only
    rw [iltL]
    obtain ⟨s1, s2, s3, s4⟩ := hd.2 _ (List.getElem_mem hlt)
    refine Ult.yes (decide_eq_true hlt) (Ult.bindc (at?_nat hlt) ?_)
    refine Ult.bind (Ult.call (f := fun k => S14 k (d[j].2.2.1, ())) (lp_le _ _ (lp_le _ _ (lp_le _ _ fun _ => Nat.le_refl _))) (S14_spec d[j].2.2.1 (by have := s3.1; omega))) ?_
    refine Ult.bind (Ult.call (f := fun k => S14 k (d[j].2.2.2, ())) (lp_le _ _ (lp_le _ _ (lp_le _ _ fun _ => Nat.le_refl _))) (S14_spec d[j].2.2.2 (by have := s4.1; omega))) ?_
    refine Ult.bindc (app?_ok (by rw [takeL hlt]; show (j + 1) * 80 ≤ _; omega)) ?_
    rw [isucc hlt (by omega)]
    exact next
  try dsimp only
  refine Ult.no (iltE _) ?_
  refine Ult.copyI (lp_le _ _ (lp_le _ _ (lp_le _ _ fun _ => Nat.le_refl _))) e (fun v j => ((j : Int), a, b, c, d, v)) _ ?_ fun j hlt next => ?_
  rotate_left
  · try dsimp only
    rw [iltL]
    obtain ⟨s1, s2, s3⟩ := he.2 _ (List.getElem_mem hlt)
    refine Ult.yes (decide_eq_true hlt) (Ult.bindc (at?_nat hlt) ?_)
    refine Ult.bind (Ult.call (f := fun k => S64 k (e[j], ())) (lp_le _ _ (lp_le _ _ (lp_le _ _ (lp_le _ _ fun _ => Nat.le_refl _)))) (S64_spec e[j] s2 s3)) ?_
    refine Ult.bindc (app?_ok (by rw [takeL hlt]; show (j + 1) * 64 ≤ _; omega)) ?_
    rw [isucc hlt (by omega)]
    exact next
  try dsimp only
  exact Ult.no (iltE _) Ult.ret

/-! ### compared with themselves -/
theorem S42_self (p : Condition) (h1 : PairSz p.2.1) (h2 : PairSz p.2.2) : Ultk (fun k => S42 k (p, p, ())) true := by
  unfold S42
  have l1 := h1.len
  have l2 := h2.len
  exact Ult.yes (by rw [seq_eq]; simp) (Ult.bind (S22_self p.2.1 (by omega)) (Ult.yes rfl (Ult.bind (S22_self p.2.2 (by omega)) Ult.ret)))
theorem S33_self (p : Platform) (h1 : PairSz p.2) : Ultk (fun k => S33 k (p, p, ())) true := by
  unfold S33
  have l1 := h1.len
  exact Ult.yes (by rw [seq_eq]; simp) (Ult.bind (S22_self p.2 (by omega)) Ult.ret)
theorem S72_self (p : Transition) (h1 : PairSz p.2.1) (h2 : StrsSz p.2.2) : Ultk (fun k => S72 k (p, p, ())) true := by
  unfold S72
  have l1 := h1.len
  have l2 := len_big h2.1 (by omega)
  exact Ult.yes (by rw [seq_eq]; simp) (Ult.bind (S22_self p.2.1 (by omega)) (Ult.yes rfl (Ult.bind (S31_self p.2.2 (by omega)) Ult.ret)))
theorem S32_self (x : CWorld) (hx : WorldSz x) : Ultk (fun k => S32 k (x, x, ())) true := by
  obtain ⟨a, b, c, d, e⟩ := x
  obtain ⟨ha, hb, hc, hd, he⟩ := hx
  dsimp only at ha hb hc hd he
  have lb := len_big hb.1 (by omega)
  have lc := len_big hc.1 (by omega)
  have ld := len_big hd.1 (by omega)
  have le := len_big he.1 (by omega)
  unfold S32
  try dsimp only
  refine Ult.jn (Ult.bind (S21_self a ha) (Ult.no rfl (Ult.no (by rw [ine_eq]; simp) (Ult.no (by rw [ine_eq]; simp) (Ult.no (by rw [ine_eq]; simp) (Ult.no (by rw [ine_eq]; simp) ?_))))))
  refine Ult.copyI (fun _ => Nat.le_refl _) b (fun _ j => (j : Int)) _ ?_ fun j hlt next => ?_
  rotate_left
  · try dsimp only
    rw [iltL]
    obtain ⟨s1, s2, s3⟩ := hb.2 _ (List.getElem_mem hlt)
    refine Ult.yes (decide_eq_true hlt) (Ult.bindc (at?_nat hlt) (Ult.bindc (at?_nat hlt) ?_))
    refine Ult.bind (Ult.call (f := fun k => S42 k (b[j], b[j], ())) (lp_le _ _ fun _ => Nat.le_refl _) (S42_self b[j] s2 s3)) (Ult.no rfl ?_)
    rw [isucc hlt (by omega)]
    exact next
  try dsimp only
  refine Ult.no (iltE _) ?_
  refine Ult.copyI (lp_le _ _ fun _ => Nat.le_refl _) c (fun _ j => (j : Int)) _ ?_ fun j hlt next => ?_
  rotate_left
  · try dsimp only
    rw [iltL]
    obtain ⟨s1, s2⟩ := hc.2 _ (List.getElem_mem hlt)
    refine Ult.yes (decide_eq_true hlt) (Ult.bindc (at?_nat hlt) (Ult.bindc (at?_nat hlt) ?_))
    refine Ult.bind (Ult.call (f := fun k => S33 k (c[j], c[j], ())) (lp_le _ _ (lp_le _ _ fun _ => Nat.le_refl _)) (S33_self c[j] s2)) (Ult.no rfl ?_)
    rw [isucc hlt (by omega)]
    exact next
  try dsimp only
  refine Ult.no (iltE _) ?_
  refine Ult.copyI (lp_le _ _ (lp_le _ _ fun _ => Nat.le_refl _)) d (fun _ j => (j : Int)) _ ?_ fun j hlt next => ?_
  rotate_left
  · try dsimp only
    rw [iltL]
    obtain ⟨s1, s2, s3, s4⟩ := hd.2 _ (List.getElem_mem hlt)
    have l3 := s3.len
    have l4 := s4.len
    refine Ult.yes (decide_eq_true hlt) (Ult.bindc (at?_nat hlt) (Ult.bindc (at?_nat hlt) (Ult.jn (Ult.no (by rw [sne_eq]; simp) (Ult.no (by rw [sne_eq]; simp) ?_)))))
    refine Ult.bind (Ult.call (f := fun k => S22 k (d[j].2.2.1, d[j].2.2.1, ())) (lp_le _ _ (lp_le _ _ (lp_le _ _ fun _ => Nat.le_refl _))) (S22_self d[j].2.2.1 (by omega))) (Ult.no rfl ?_)
    refine Ult.bind (Ult.call (f := fun k => S22 k (d[j].2.2.2, d[j].2.2.2, ())) (lp_le _ _ (lp_le _ _ (lp_le _ _ fun _ => Nat.le_refl _))) (S22_self d[j].2.2.2 (by omega))) (Ult.no rfl ?_)
    rw [isucc hlt (by omega)]
    exact next
  try dsimp only
  refine Ult.no (iltE _) ?_
  refine Ult.copyI (lp_le _ _ (lp_le _ _ (lp_le _ _ fun _ => Nat.le_refl _))) e (fun _ j => (j : Int)) _ ?_ fun j hlt next => ?_
  rotate_left
  · try dsimp only
    rw [iltL]
    obtain ⟨s1, s2, s3⟩ := he.2 _ (List.getElem_mem hlt)
    refine Ult.yes (decide_eq_true hlt) (Ult.bindc (at?_nat hlt) (Ult.bindc (at?_nat hlt) ?_))
    refine Ult.bind (Ult.call (f := fun k => S72 k (e[j], e[j], ())) (lp_le _ _ (lp_le _ _ (lp_le _ _ (lp_le _ _ fun _ => Nat.le_refl _)))) (S72_self e[j] s2 s3)) (Ult.no rfl ?_)
    rw [isucc hlt (by omega)]
    exact next
  try dsimp only
  exact Ult.no (iltE _) Ult.ret
end Go.Proofs.YtklmkonpilkfnaaDoor.Ev
