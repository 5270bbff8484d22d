/- Laws of Config: platforms, tools, worlds (this session's own). No condition but those in the statements. -/
import Derived.Test.YtklmkonpilkfnaaDoorPcF
namespace Go.Proofs.YtklmkonpilkfnaaDoor.Ev
open Go Go.RowKit
set_option linter.unusedVariables false
set_option linter.unusedSimpArgs false
abbrev Platform : Type := ByteArray × List Pair
abbrev Tool : Type := ByteArray × ByteArray × List Pair × List Pair
abbrev Condition : Type := ByteArray × List Pair × List Pair
abbrev Transition : Type := ByteArray × List Pair × List ByteArray
abbrev CWorld : Type := List Setting × List Condition × List Platform × List Tool × List Transition
def PlatSz (L : List Platform) : Prop := L.length * 40 ≤ 140737488351232 ∧ ∀ p ∈ L, p.1.size ≤ 140737488351232 ∧ PairSz p.2
def ToolSz (L : List Tool) : Prop := L.length * 80 ≤ 140737488351232 ∧ ∀ p ∈ L, p.1.size ≤ 140737488351232 ∧ p.2.1.size ≤ 140737488351232 ∧ PairSz p.2.2.1 ∧ PairSz p.2.2.2
def CondSz (L : List Condition) : Prop := L.length * 64 ≤ 140737488351232 ∧ ∀ p ∈ L, p.1.size ≤ 140737488351232 ∧ PairSz p.2.1 ∧ PairSz p.2.2
def StrsSz (L : List ByteArray) : Prop := L.length * 16 ≤ 140737488351232 ∧ ∀ s ∈ L, s.size ≤ 140737488351232
def TranSz (L : List Transition) : Prop := L.length * 64 ≤ 140737488351232 ∧ ∀ p ∈ L, p.1.size ≤ 140737488351232 ∧ PairSz p.2.1 ∧ StrsSz p.2.2
def WorldSz (x : CWorld) : Prop := SetSz x.1 ∧ CondSz x.2.1 ∧ PlatSz x.2.2.1 ∧ ToolSz x.2.2.2.1 ∧ TranSz x.2.2.2.2
variable {ι R α : Type} {l : ι → Nat}

/-! ### loops that only look -/
theorem idx_loop {kk : ι → Nat} (hk : ∀ i, l i ≤ kk i) (L : List α) (f : ι → α → Option Bool) (p : α → Bool) (hf : ∀ a ∈ L, Ult l (fun i => f i a) (p a)) (hL : L.length ≤ 9223372036854775807) :
    Ult l (fun i => loopN (kk i) (fun (next : Int → Option Int) (j : Int) => cnd (ilt j (len L)) (bnd (at? L j) fun a => bnd (f i a) fun b => cnd b (some j) (next (iadd .i64 j 1))) (some (-1))) 0) (idxF p 0 L) := by
  refine (Ult.forI hk L.length (fun j => idxF p j (L.drop j)) fun j hj next => ?_).eq (by rw [List.drop_zero])
  rw [iltL]
  by_cases hlt' : ¬ j < L.length
  · refine Ult.no (decide_eq_false hlt') (Ult.ret.eq ?_)
    rw [List.drop_eq_nil_of_le (by omega)]; rfl
  have hlt : j < L.length := Decidable.not_not.1 hlt'
  refine Ult.yes (decide_eq_true hlt) (Ult.bindc (at?_nat hlt) (Ult.bind (hf _ (List.getElem_mem hlt)).lift ?_))
  rw [drop_cons hlt, idxF, isucc hlt hL]
  exact Ult.ifS (by simp) (fun h => Ult.ret) (fun h => next hlt)
theorem any_loop {kk : ι → Nat} (hk : ∀ i, l i ≤ kk i) (L : List α) (g : α → Bool) {r1 r2 : R} {y n : ι → Option R} (hy : Ult l y r1) (hn : Ult l n r2) (hL : L.length ≤ 9223372036854775807) :
    Ult l (fun i => loopN (kk i) (fun (next : Int → Option R) (j : Int) => cnd (ilt j (len L)) (bnd (at? L j) fun a => cnd (g a) (y i) (next (iadd .i64 j 1))) (n i)) 0) (if L.any g = true then r1 else r2) := by
  refine (Ult.forI hk L.length (fun j => if (L.drop j).any g = true then r1 else r2) fun j hj next => ?_).eq (by rw [List.drop_zero])
  rw [iltL]
  by_cases hlt' : ¬ j < L.length
  · refine Ult.no (decide_eq_false hlt') (hn.lift.eq ?_)
    rw [List.drop_eq_nil_of_le (by omega)]; rfl
  have hlt : j < L.length := Decidable.not_not.1 hlt'
  refine Ult.yes (decide_eq_true hlt) (Ult.bindc (at?_nat hlt) ?_)
  rw [drop_cons hlt, List.any_cons, isucc hlt hL]
  cases hg : g L[j]
  · exact Ult.no rfl (next hlt)
  · exact Ult.yes rfl (hy.lift.eq (by simp))
theorem all_loop {kk : ι → Nat} (hk : ∀ i, l i ≤ kk i) (L : List α) (f : ι → α → Option Bool) (p : α → Bool) {r1 r2 : R} {y n : ι → Option R} (hy : Ult l y r1) (hn : Ult l n r2) (hf : ∀ a ∈ L, Ult l (fun i => f i a) (p a)) (hL : L.length ≤ 9223372036854775807) :
    Ult l (fun i => loopN (kk i) (fun (next : Int → Option R) (j : Int) => cnd (ilt j (len L)) (bnd (at? L j) fun a => bnd (f i a) fun b => cnd (bnot b) (n i) (next (iadd .i64 j 1))) (y i)) 0) (if L.all p = true then r1 else r2) := by
  refine (Ult.forI hk L.length (fun j => if (L.drop j).all p = true then r1 else r2) fun j hj next => ?_).eq (by rw [List.drop_zero])
  rw [iltL]
  by_cases hlt' : ¬ j < L.length
  · refine Ult.no (decide_eq_false hlt') (hy.lift.eq ?_)
    rw [List.drop_eq_nil_of_le (by omega)]; rfl
  have hlt : j < L.length := Decidable.not_not.1 hlt'
  refine Ult.yes (decide_eq_true hlt) (Ult.bindc (at?_nat hlt) (Ult.bind (hf _ (List.getElem_mem hlt)).lift ?_))
  rw [drop_cons hlt, List.all_cons, isucc hlt hL]
  cases hg : p L[j]
  · exact Ult.yes rfl (hn.lift.eq (by simp))
  · exact Ult.no rfl (next hlt)
theorem idxF_any {p : α → Bool} {L : List α} : ige (idxF p 0 L) 0 = L.any p := by
  rw [ige_eq]
  rcases idxF_cases p 0 L with ⟨h1, h2⟩ | ⟨i, hi, h1, h2, h3⟩
  · rw [h1]
    rw [List.find?_eq_none] at h2
    have : L.any p = false := by
      rw [List.any_eq_false]
      intro a ha; exact h2 a ha
    rw [this]; rfl
  · rw [h1, decide_eq_true (Int.natCast_nonneg _)]
    exact (List.any_eq_true.2 ⟨L[i], List.getElem_mem hi, h3⟩).symm

/-! ### pairs -/
def chkPairs : Option ByteArray → List Pair → Int
  | _, [] => 0
  | prev, p :: r => if isWord p.1 = false then 5 else if isWord p.2 = false then 1 else if notAbove prev p.1 = true then 8 else chkPairs (some p.1) r
def chkPairsL (L : List Pair) : Int := if 30 < L.length then 2 else chkPairs none L
theorem S68_spec (L : List Pair) (hL : PairSz L) : Ultk (fun k => S68 k (L, ())) (chkPairsL L) := by
  unfold S68 chkPairsL
  have hlen := hL.len
  refine Ult.ifS (by rw [igt_eq]; unfold len; simp only [decide_eq_decide]; omega) (fun _ => Ult.ret) fun h30 => ?_
  refine (Ult.forI (fun _ => Nat.le_refl _) L.length (fun j => chkPairs (prevOf L j) (L.drop j)) fun j hj next => ?_).eq (by rw [List.drop_zero, prevOf_zero])
  dsimp only
  rw [iltL]
  by_cases hlt' : ¬ j < L.length
  · refine Ult.no (decide_eq_false hlt') (Ult.ret.eq ?_)
    rw [List.drop_eq_nil_of_le (by omega)]
    cases prevOf L j <;> rfl
  have hlt : j < L.length := Decidable.not_not.1 hlt'
  refine Ult.yes (decide_eq_true hlt) (Ult.bindc (at?_nat hlt) ?_)
  obtain ⟨s1, s2⟩ := hL.2 _ (List.getElem_mem hlt)
  rw [drop_cons hlt, chkPairs, ← prevOf_succ hlt, isucc hlt (by omega)]
  refine Ult.bind (Ult.call (f := fun k => S60 k (L[j].1, ())) (lp_le _ _ fun _ => Nat.le_refl _) (S60_spec L[j].1 (by omega))) (Ult.ifS (not_false_eq _) (fun _ => Ult.ret) fun _ => ?_)
  refine Ult.bind (Ult.call (f := fun k => S60 k (L[j].2, ())) (lp_le _ _ fun _ => Nat.le_refl _) (S60_spec L[j].2 (by omega))) (Ult.ifS (not_false_eq _) (fun _ => Ult.ret) fun _ => ?_)
  exact order_step hlt (by omega) (next hlt)
theorem S71_spec (L : List Pair) (hL : PairSz L) : Ultk (fun k => S71 k (L, ())) (chkPairsL L) := by
  unfold S71 chkPairsL
  have hlen := hL.len
  refine Ult.ifS (by rw [igt_eq]; unfold len; simp only [decide_eq_decide]; omega) (fun _ => Ult.ret) fun h30 => ?_
  refine (Ult.forI (fun _ => Nat.le_refl _) L.length (fun j => chkPairs (prevOf L j) (L.drop j)) fun j hj next => ?_).eq (by rw [List.drop_zero, prevOf_zero])
  dsimp only
  rw [iltL]
  by_cases hlt' : ¬ j < L.length
  · refine Ult.no (decide_eq_false hlt') (Ult.ret.eq ?_)
    rw [List.drop_eq_nil_of_le (by omega)]
    cases prevOf L j <;> rfl
  have hlt : j < L.length := Decidable.not_not.1 hlt'
  refine Ult.yes (decide_eq_true hlt) (Ult.bindc (at?_nat hlt) ?_)
  obtain ⟨s1, s2⟩ := hL.2 _ (List.getElem_mem hlt)
  rw [drop_cons hlt, chkPairs, ← prevOf_succ hlt, isucc hlt (by omega)]
  refine Ult.bind (Ult.call (f := fun k => S62 k (L[j].1, ())) (lp_le _ _ fun _ => Nat.le_refl _) (S62_spec L[j].1 (by omega))) (Ult.ifS (not_false_eq _) (fun _ => Ult.ret) fun _ => ?_)
  refine Ult.bind (Ult.call (f := fun k => S62 k (L[j].2, ())) (lp_le _ _ fun _ => Nat.le_refl _) (S62_spec L[j].2 (by omega))) (Ult.ifS (not_false_eq _) (fun _ => Ult.ret) fun _ => ?_)
  exact order_step hlt (by omega) (next hlt)

/-! ### platforms -/
def chkPlats : List Platform → List Platform → Int
  | _, [] => 0
  | seen, p :: r => if isWord p.1 = false then 5 else if chkPairsL p.2 ≠ 0 then chkPairsL p.2 else if (seen.any fun q => decide (q.1 = p.1)) = true then 7 else chkPlats (seen ++ [p]) r
def chkPlatforms (L : List Platform) : Int := if 50 < L.length then 2 else chkPlats [] L
theorem S105_spec {kk : ι → Nat} (hk : ∀ i, l i ≤ kk i) (L : List Platform) (f : ι → Platform → Option Bool) (p : Platform → Bool) (hf : ∀ a ∈ L, Ult l (fun i => f i a) (p a)) (hL : L.length ≤ 9223372036854775807) : Ult l (fun i => S105 (kk i) (L, f i, ())) (idxF p 0 L) := by
  unfold S105
  exact idx_loop hk L f p hf hL
theorem S75_spec {kk : ι → Nat} (hk : ∀ i, l i ≤ kk i) (L : List Platform) (f : ι → Platform → Option Bool) (p : Platform → Bool) (hf : ∀ a ∈ L, Ult l (fun i => f i a) (p a)) (hL : L.length ≤ 9223372036854775807) : Ult l (fun i => S75 (kk i) (L, f i, ())) (L.any p) := by
  unfold S75
  exact Ult.bind (S105_spec hk L f p hf hL) (Ult.ret.eq idxF_any)
theorem S38_spec (L : List Platform) (hL : PlatSz L) : Ultk (fun k => S38 k (L, ())) (chkPlatforms L) := by
  unfold S38 chkPlatforms
  have hlen := len_big hL.1 (by omega)
  refine Ult.ifS (by rw [igt_eq]; unfold len; simp only [decide_eq_decide]; omega) (fun _ => Ult.ret) fun h30 => ?_
  refine (Ult.forI (fun _ => Nat.le_refl _) L.length (fun j => chkPlats (L.take j) (L.drop j)) fun j hj next => ?_).eq (by rw [List.drop_zero, List.take_zero])
  dsimp only
  rw [iltL]
  by_cases hlt' : ¬ j < L.length
  · refine Ult.no (decide_eq_false hlt') (Ult.ret.eq ?_)
    rw [List.drop_eq_nil_of_le (by omega)]; rfl
  have hlt : j < L.length := Decidable.not_not.1 hlt'
  refine Ult.yes (decide_eq_true hlt) (Ult.bindc (at?_nat hlt) ?_)
  obtain ⟨s1, s2⟩ := hL.2 _ (List.getElem_mem hlt)
  rw [drop_cons hlt, chkPlats, ← List.take_succ_eq_append_getElem hlt, isucc hlt (by omega)]
  have hsp := S68_spec L[j].2 s2
  refine Ult.bind (Ult.call (f := fun k => S60 k (L[j].1, ())) (lp_le _ _ fun _ => Nat.le_refl _) (S60_spec L[j].1 (by omega))) (Ult.ifS (not_false_eq _) (fun _ => Ult.ret) fun _ => ?_)
  refine Ult.bind (Ult.call (f := fun k => S68 k (L[j].2, ())) (lp_le _ _ fun _ => Nat.le_refl _) hsp) (Ult.ifS (ine_eq _ _) (fun _ => Ult.ret) fun _ => ?_)
  refine Ult.bindc (cut?_take (by omega)) ?_
  have ha := S75_spec (l := lp fun k => k) (kk := fun p => p.1) (lp_le _ _ fun _ => Nat.le_refl _) (L.take j) (fun p a => S76 p.1 (a, (L[j].1, L[j].2), ())) (fun q => decide (q.1 = L[j].1)) (fun a _ => Ult.ret.eq (seq_eq _ _)) (by rw [List.length_take]; omega)
  exact Ult.bind ha (Ult.ifS (dec_true _) (fun _ => Ult.ret) fun _ => next hlt)
theorem S39_spec (L : List Platform) (hL : PlatSz L) : Ultk (fun k => S39 k (L, ())) (chkPlatforms L) := by
  unfold S39 chkPlatforms
  have hlen := len_big hL.1 (by omega)
  refine Ult.ifS (by rw [igt_eq]; unfold len; simp only [decide_eq_decide]; omega) (fun _ => Ult.ret) fun h30 => ?_
  refine (Ult.forI (fun _ => Nat.le_refl _) L.length (fun j => chkPlats (L.take j) (L.drop j)) fun j hj next => ?_).eq (by rw [List.drop_zero, List.take_zero])
  dsimp only
  rw [iltL]
  by_cases hlt' : ¬ j < L.length
  · refine Ult.no (decide_eq_false hlt') (Ult.ret.eq ?_)
    rw [List.drop_eq_nil_of_le (by omega)]; rfl
  have hlt : j < L.length := Decidable.not_not.1 hlt'
  refine Ult.yes (decide_eq_true hlt) (Ult.bindc (at?_nat hlt) ?_)
  obtain ⟨s1, s2⟩ := hL.2 _ (List.getElem_mem hlt)
  rw [drop_cons hlt, chkPlats, ← List.take_succ_eq_append_getElem hlt, isucc hlt (by omega)]
  have hsp := S71_spec L[j].2 s2
  refine Ult.bind (Ult.call (f := fun k => S62 k (L[j].1, ())) (lp_le _ _ fun _ => Nat.le_refl _) (S62_spec L[j].1 (by omega))) (Ult.ifS (not_false_eq _) (fun _ => Ult.ret) fun _ => ?_)
  refine Ult.bind (Ult.call (f := fun k => S71 k (L[j].2, ())) (lp_le _ _ fun _ => Nat.le_refl _) hsp) (Ult.ifS (ine_eq _ _) (fun _ => Ult.ret) fun _ => ?_)
  refine Ult.bindc (cut?_take (by omega)) ?_
  have ha := any_loop (l := lp fun k => k) (kk := fun p => p.1) (lp_le _ _ fun _ => Nat.le_refl _) (L.take j) (fun q => seq q.1 L[j].1) (Ult.ret (r := (7 : Int))) (next hlt) (by rw [List.length_take]; omega)
  have e : (fun q : Platform => decide (q.1 = L[j].1)) = fun q => seq q.1 L[j].1 := funext fun q => (seq_eq _ _).symm
  rw [e]
  exact ha

/-! ### tools -/
def chkTls : List Tool → List Tool → Int
  | _, [] => 0
  | seen, p :: r => if isWord p.1 = false then 5 else if isWord p.2.1 = false then 5 else if chkPairsL p.2.2.1 ≠ 0 then chkPairsL p.2.2.1 else if chkPairsL p.2.2.2 ≠ 0 then chkPairsL p.2.2.2 else if (seen.any fun q => decide (q.1 = p.1)) = true then 7 else chkTls (seen ++ [p]) r
def chkTools (L : List Tool) : Int := if 100 < L.length then 2 else chkTls [] L
theorem S101_spec {kk : ι → Nat} (hk : ∀ i, l i ≤ kk i) (L : List Tool) (f : ι → Tool → Option Bool) (p : Tool → Bool) (hf : ∀ a ∈ L, Ult l (fun i => f i a) (p a)) (hL : L.length ≤ 9223372036854775807) : Ult l (fun i => S101 (kk i) (L, f i, ())) (idxF p 0 L) := by
  unfold S101
  exact idx_loop hk L f p hf hL
theorem S69_spec {kk : ι → Nat} (hk : ∀ i, l i ≤ kk i) (L : List Tool) (f : ι → Tool → Option Bool) (p : Tool → Bool) (hf : ∀ a ∈ L, Ult l (fun i => f i a) (p a)) (hL : L.length ≤ 9223372036854775807) : Ult l (fun i => S69 (kk i) (L, f i, ())) (L.any p) := by
  unfold S69
  exact Ult.bind (S101_spec hk L f p hf hL) (Ult.ret.eq idxF_any)
theorem S29_spec (L : List Tool) (hL : ToolSz L) : Ultk (fun k => S29 k (L, ())) (chkTools L) := by
  unfold S29 chkTools
  have hlen := len_big hL.1 (by omega)
  refine Ult.ifS (by rw [igt_eq]; unfold len; simp only [decide_eq_decide]; omega) (fun _ => Ult.ret) fun h30 => ?_
  refine (Ult.forI (fun _ => Nat.le_refl _) L.length (fun j => chkTls (L.take j) (L.drop j)) fun j hj next => ?_).eq (by rw [List.drop_zero, List.take_zero])
  dsimp only
  rw [iltL]
  by_cases hlt' : ¬ j < L.length
  · refine Ult.no (decide_eq_false hlt') (Ult.ret.eq ?_)
    rw [List.drop_eq_nil_of_le (by omega)]; rfl
  have hlt : j < L.length := Decidable.not_not.1 hlt'
  refine Ult.yes (decide_eq_true hlt) (Ult.bindc (at?_nat hlt) ?_)
  obtain ⟨s1, s2, s3, s4⟩ := hL.2 _ (List.getElem_mem hlt)
  rw [drop_cons hlt, chkTls, ← List.take_succ_eq_append_getElem hlt, isucc hlt (by omega)]
  have hp1 := S68_spec L[j].2.2.1 s3
  have hp2 := S68_spec L[j].2.2.2 s4
  refine Ult.jn (Ult.bind (Ult.call (f := fun k => S60 k (L[j].1, ())) (lp_le _ _ fun _ => Nat.le_refl _) (S60_spec L[j].1 (by omega))) (Ult.ifS (not_false_eq _) (fun _ => Ult.ret) fun _ => ?_))
  refine Ult.bind (Ult.call (f := fun k => S60 k (L[j].2.1, ())) (lp_le _ _ fun _ => Nat.le_refl _) (S60_spec L[j].2.1 (by omega))) (Ult.ifS (not_false_eq _) (fun _ => Ult.ret) fun _ => ?_)
  refine Ult.bind (Ult.call (f := fun k => S68 k (L[j].2.2.1, ())) (lp_le _ _ fun _ => Nat.le_refl _) hp1) (Ult.ifS (ine_eq _ _) (fun _ => Ult.ret) fun _ => ?_)
  refine Ult.bind (Ult.call (f := fun k => S68 k (L[j].2.2.2, ())) (lp_le _ _ fun _ => Nat.le_refl _) hp2) (Ult.ifS (ine_eq _ _) (fun _ => Ult.ret) fun _ => ?_)
  refine Ult.bindc (cut?_take (by omega)) ?_
  have ha := S69_spec (l := lp fun k => k) (kk := fun p => p.1) (lp_le _ _ fun _ => Nat.le_refl _) (L.take j) (fun p a => S70 p.1 (a, (L[j].1, L[j].2.1, L[j].2.2.1, L[j].2.2.2), ())) (fun q => decide (q.1 = L[j].1)) (fun a _ => Ult.ret.eq (seq_eq _ _)) (by rw [List.length_take]; omega)
  exact Ult.bind ha (Ult.ifS (dec_true _) (fun _ => Ult.ret) fun _ => next hlt)
theorem S30_spec (L : List Tool) (hL : ToolSz L) : Ultk (fun k => S30 k (L, ())) (chkTools L) := by
  unfold S30 chkTools
  have hlen := len_big hL.1 (by omega)
  refine Ult.ifS (by rw [igt_eq]; unfold len; simp only [decide_eq_decide]; omega) (fun _ => Ult.ret) fun h30 => ?_
  refine (Ult.forI (fun _ => Nat.le_refl _) L.length (fun j => chkTls (L.take j) (L.drop j)) fun j hj next => ?_).eq (by rw [List.drop_zero, List.take_zero])
  dsimp only
  rw [iltL]
  by_cases hlt' : ¬ j < L.length
  · refine Ult.no (decide_eq_false hlt') (Ult.ret.eq ?_)
    rw [List.drop_eq_nil_of_le (by omega)]; rfl
  have hlt : j < L.length := Decidable.not_not.1 hlt'
  refine Ult.yes (decide_eq_true hlt) (Ult.bindc (at?_nat hlt) ?_)
  obtain ⟨s1, s2, s3, s4⟩ := hL.2 _ (List.getElem_mem hlt)
  rw [drop_cons hlt, chkTls, ← List.take_succ_eq_append_getElem hlt, isucc hlt (by omega)]
  have hp1 := S71_spec L[j].2.2.1 s3
  have hp2 := S71_spec L[j].2.2.2 s4
  refine Ult.jn (Ult.bind (Ult.call (f := fun k => S62 k (L[j].1, ())) (lp_le _ _ fun _ => Nat.le_refl _) (S62_spec L[j].1 (by omega))) (Ult.ifS (not_false_eq _) (fun _ => Ult.ret) fun _ => ?_))
  refine Ult.bind (Ult.call (f := fun k => S62 k (L[j].2.1, ())) (lp_le _ _ fun _ => Nat.le_refl _) (S62_spec L[j].2.1 (by omega))) (Ult.ifS (not_false_eq _) (fun _ => Ult.ret) fun _ => ?_)
  refine Ult.bind (Ult.call (f := fun k => S71 k (L[j].2.2.1, ())) (lp_le _ _ fun _ => Nat.le_refl _) hp1) (Ult.ifS (ine_eq _ _) (fun _ => Ult.ret) fun _ => ?_)
  refine Ult.bind (Ult.call (f := fun k => S71 k (L[j].2.2.2, ())) (lp_le _ _ fun _ => Nat.le_refl _) hp2) (Ult.ifS (ine_eq _ _) (fun _ => Ult.ret) fun _ => ?_)
  refine Ult.bindc (cut?_take (by omega)) ?_
  have ha := any_loop (l := lp fun k => k) (kk := fun p => p.1) (lp_le _ _ fun _ => Nat.le_refl _) (L.take j) (fun q => seq q.1 L[j].1) (Ult.ret (r := (7 : Int))) (next hlt) (by rw [List.length_take]; omega)
  have e : (fun q : Tool => decide (q.1 = L[j].1)) = fun q => seq q.1 L[j].1 := funext fun q => (seq_eq _ _).symm
  rw [e]
  exact ha

def chkKinds : Option ByteArray → List ByteArray → Int
  | _, [] => 0
  | prev, p :: r => if isWord p = false then 5 else if notAbove prev p = true then 8 else chkKinds (some p) r
def prevK (L : List ByteArray) (j : Nat) : Option ByteArray := if h : 0 < j ∧ j - 1 < L.length then some (L[j - 1]'h.2) else none
theorem prevK_succ {L : List ByteArray} {j : Nat} (h : j < L.length) : prevK L (j + 1) = some L[j] := by unfold prevK; rw [dif_pos ⟨Nat.succ_pos _, by simpa using h⟩]; simp
theorem order_stepK {C : List ByteArray} {j : Nat} (hlt : j < C.length) (hC : C.length ≤ 9223372036854775807) {e rest : R} {y f : ι → Option R} (he : Ult l y e) (nx : Ult l f rest) :
    Ult l (fun i => cnd (igt (j : Int) 0) (bnd (at? C (isub .i64 (j : Int) 1)) fun a => cnd (sle C[j] a) (y i) (f i)) (f i)) (if notAbove (prevK C j) C[j] = true then e else rest) := by
  rw [igt0]
  by_cases h0 : 0 < j
  · refine Ult.yes (decide_eq_true h0) ?_
    rw [ipred (n := C.length) h0 (by omega) (by omega)]
    refine Ult.bindc (at?_nat (show j - 1 < C.length by omega)) ?_
    have hp : prevK C j = some C[j - 1] := by unfold prevK; rw [dif_pos ⟨h0, by omega⟩]
    rw [hp]
    exact Ult.ifS (dec_true _) (fun _ => he) fun _ => nx
  · refine Ult.no (decide_eq_false h0) ?_
    have : j = 0 := by omega
    subst this
    rw [show prevK C 0 = none from rfl, if_neg (by simp [notAbove])]
    exact nx
theorem S65_spec (L : List ByteArray) (hL : StrsSz L) : Ultk (fun k => S65 k (L, ())) (if 30 < L.length then 2 else chkKinds none L) := by
  unfold S65
  have hlen := len_big hL.1 (by omega)
  refine Ult.ifS (by rw [igt_eq]; unfold len; simp only [decide_eq_decide]; omega) (fun _ => Ult.ret) fun h30 => ?_
  refine (Ult.forI (fun _ => Nat.le_refl _) L.length (fun j => chkKinds (prevK L j) (L.drop j)) fun j hj next => ?_).eq (by rw [List.drop_zero]; rfl)
  dsimp only
  rw [iltL]
  by_cases hlt' : ¬ j < L.length
  · refine Ult.no (decide_eq_false hlt') (Ult.ret.eq ?_)
    rw [List.drop_eq_nil_of_le (by omega)]
    cases prevK L j <;> rfl
  have hlt : j < L.length := Decidable.not_not.1 hlt'
  refine Ult.yes (decide_eq_true hlt) (Ult.bindc (at?_nat hlt) ?_)
  have s1 := hL.2 _ (List.getElem_mem hlt)
  rw [drop_cons hlt, chkKinds, ← prevK_succ hlt, isucc hlt (by omega)]
  refine Ult.bind (Ult.call (f := fun k => S60 k (L[j], ())) (lp_le _ _ fun _ => Nat.le_refl _) (S60_spec L[j] (by omega))) (Ult.ifS (not_false_eq _) (fun _ => Ult.ret) fun _ => ?_)
  exact order_stepK hlt (by omega) Ult.ret (next hlt)

/-! ### what fits -/
def hasP (L : List Pair) (p : Pair) : Bool := L.any fun q => decide (p = q)
theorem S161_spec (L : List Pair) (p : Pair) (hL : L.length ≤ 9223372036854775807) : Ultk (fun k => S161 k (L, p, ())) (idxF (fun q => decide (p = q)) 0 L) := by
  unfold S161
  have h := idx_loop (l := fun k : Nat => k) (fun _ => Nat.le_refl _) L (fun _ a => some (kbeq (Kd.agg (Kd.pair Kd.str Kd.str)) (p.1, p.2) a)) (fun q => decide (p = q)) (fun a _ => Ult.ret.eq (kbeq_pair _ _)) hL
  exact h
theorem S137_spec (L : List Pair) (p : Pair) (hL : L.length ≤ 9223372036854775807) : Ultk (fun k => S137 k (L, p, ())) (hasP L p) := by
  unfold S137
  exact Ult.bind (S161_spec L p hL) (Ult.ret.eq idxF_any)
def fitP (A B : List Pair) : Bool := A.all fun p => hasP B p
theorem if_all (b : Bool) : (if b = true then true else false) = b := by cases b <;> rfl
theorem S103_spec (A B : List Pair) (hA : A.length ≤ 9223372036854775807) (hB : B.length ≤ 9223372036854775807) : Ultk (fun k => S103 k (A, B, ())) (fitP A B) := by
  unfold S103
  have h := all_loop (l := fun k : Nat => k) (fun _ => Nat.le_refl _) A (fun k a => S137 k (B, (a.1, a.2), ())) (fun p => hasP B p) (Ult.ret (r := true)) (Ult.ret (r := false)) (fun a _ => S137_spec B a hB) hA
  exact h.eq (if_all _)
theorem S104_spec (A : List Pair) (p : Platform) (hA : A.length ≤ 9223372036854775807) (hB : p.2.length ≤ 9223372036854775807) : Ultk (fun k => S104 k (A, p, ())) (fitP A p.2) := by
  unfold S104
  have h := all_loop (l := fun k : Nat => k) (fun _ => Nat.le_refl _) A (fun k a => S137 k (p.2, (a.1, a.2), ())) (fun q => hasP p.2 q) (Ult.ret (r := true)) (Ult.ret (r := false)) (fun a _ => S137_spec p.2 a hB) hA
  exact h.eq (if_all _)
end Go.Proofs.YtklmkonpilkfnaaDoor.Ev
