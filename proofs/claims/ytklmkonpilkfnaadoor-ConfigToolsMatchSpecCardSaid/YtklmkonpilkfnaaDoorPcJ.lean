/- Laws of Config: the tools that stand ready (this session's own). No condition but those in the statements. -/
import Derived.Test.YtklmkonpilkfnaaDoorPcI
namespace Go.Proofs.YtklmkonpilkfnaaDoor.Ev
open Go Go.RowKit
set_option linter.unusedVariables false
set_option linter.unusedSimpArgs false
variable {ι R α X : Type} {l : ι → Nat}
def fitT (kd : ByteArray) (p q : Platform) (t : Tool) : Bool := if t.2.1 = kd then (if fitP t.2.2.1 p.2 = true then fitP t.2.2.2 q.2 else false) else false
def toolsOn (T : List Tool) (p q : Platform) : List ByteArray → List ByteArray → List ByteArray × Bool
  | acc, [] => (acc, true)
  | acc, kd :: r => match T.find? (fitT kd p q) with
    | none => ([], false)
    | some t => toolsOn T p q (acc ++ [t.1]) r
theorem S102_spec (t : Tool) (kd : ByteArray) (p q : Platform) (h1 : PairSz t.2.2.1) (h2 : PairSz t.2.2.2) (h3 : PairSz p.2) (h4 : PairSz q.2) : Ultk (fun k => S102 k (t, kd, p, q, ())) (fitT kd p q t) := by
  unfold S102 fitT
  have l1 := h1.len
  have l2 := h2.len
  have l3 := h3.len
  have l4 := h4.len
  refine Ult.ifS (seq_eq _ _) (fun _ => ?_) (fun _ => Ult.ret)
  refine Ult.bind (S103_spec t.2.2.1 p.2 (by omega) (by omega)) (Ult.ifS (dec_true _) (fun _ => ?_) (fun _ => Ult.ret))
  exact Ult.bind (S103_spec t.2.2.2 q.2 (by omega) (by omega)) Ult.ret
theorem S66_spec (T : List Tool) (K : List ByteArray) (p q : Platform) (hT : ToolSz T) (hK : StrsSz K) (h3 : PairSz p.2) (h4 : PairSz q.2) : Ultk (fun k => S66 k (T, K, p, q, ())) (toolsOn T p q [] K) := by
  unfold S66
  have lT := len_big hT.1 (by omega)
  have lK := len_big hK.1 (by omega)
  have mK := hK.1
  refine (Ult.forA (A := List ByteArray) (fun _ => Nat.le_refl _) K.length (fun a j => (a, (j : Int))) (fun a j => a.length = j) (fun a j => toolsOn T p q a (K.drop j)) [] rfl fun a j hj ha next => ?_).eq (by rw [List.drop_zero])
  dsimp only
  rw [iltL]
  by_cases hlt' : ¬ j < K.length
  · refine Ult.no (decide_eq_false hlt') (Ult.ret.eq ?_)
    rw [List.drop_eq_nil_of_le (by omega)]; rfl
  have hlt : j < K.length := Decidable.not_not.1 hlt'
  refine Ult.yes (decide_eq_true hlt) (Ult.bindc (at?_nat hlt) ?_)
  rw [drop_cons hlt, toolsOn, isucc hlt (by omega)]
  have ha' := S101_spec (l := lp fun k => k) (kk := fun p => p.1) (lp_le _ _ fun _ => Nat.le_refl _) T (fun r a => S102 r.1 (a, K[j], (p.1, p.2), (q.1, q.2), ())) (fitT K[j] p q) (fun t ht => by
    obtain ⟨s1, s2, s3, s4⟩ := hT.2 _ ht
    exact Ult.call (f := fun k => S102 k (t, K[j], p, q, ())) (lp_le _ _ fun _ => Nat.le_refl _) (S102_spec t K[j] p q s3 s4 h3 h4)) (by omega)
  refine Ult.bind ha' ?_
  rcases idxF_cases (fitT K[j] p q) 0 T with ⟨h1, h2⟩ | ⟨i, hi, h1, h2, h5⟩
  · rw [h1, h2]
    exact Ult.yes rfl Ult.ret
  · rw [Nat.zero_add] at h1
    rw [h1, h2]
    refine Ult.no (by rw [ilt_eq]; simp) ?_
    refine Ult.bindc (at?_nat hi) (Ult.bindc (app?_ok (by rw [ha]; show (j + 1) * 16 ≤ _; omega)) ?_)
    exact next _ hlt (by simp [ha])
theorem S67_spec (T : List Tool) (K : List ByteArray) (p q : Platform) (hT : ToolSz T) (hK : StrsSz K) (h3 : PairSz p.2) (h4 : PairSz q.2) : Ultk (fun k => S67 k (p, T, K, q, ())) (toolsOn T p q [] K) := by
  unfold S67
  have lT := len_big hT.1 (by omega)
  have lK := len_big hK.1 (by omega)
  have mK := hK.1
  have l3 := h3.len
  have l4 := h4.len
  refine (Ult.forA (A := List ByteArray) (fun _ => Nat.le_refl _) K.length (fun a j => (a, (j : Int))) (fun a j => a.length = j) (fun a j => toolsOn T p q a (K.drop j)) [] rfl fun a j hj ha next => ?_).eq (by rw [List.drop_zero])
  dsimp only
  rw [iltL]
  by_cases hlt' : ¬ j < K.length
  · refine Ult.no (decide_eq_false hlt') (Ult.ret.eq ?_)
    rw [List.drop_eq_nil_of_le (by omega)]; rfl
  have hlt : j < K.length := Decidable.not_not.1 hlt'
  refine Ult.yes (decide_eq_true hlt) (Ult.bindc (at?_nat hlt) ?_)
  rw [drop_cons hlt, toolsOn, isucc hlt (by omega)]
  refine (Ult.forA (A := Unit) (lp_le _ _ fun _ => Nat.le_refl _) T.length (fun _ i => (a, false, (i : Int))) (fun _ _ => True) (fun _ i => match (T.drop i).find? (fitT K[j] p q) with
    | none => (([] : List ByteArray), false)
    | some t => toolsOn T p q (a ++ [t.1]) (K.drop (j + 1))) () trivial fun _ i hi _ next2 => ?_).eq (by rw [List.drop_zero])
  dsimp only
  rw [iltL]
  by_cases hlu' : ¬ i < T.length
  · refine Ult.no (decide_eq_false hlu') (Ult.yes rfl (Ult.ret.eq ?_))
    rw [List.drop_eq_nil_of_le (by omega)]; rfl
  have hlu : i < T.length := Decidable.not_not.1 hlu'
  obtain ⟨s1, s2, s3, s4⟩ := hT.2 _ (List.getElem_mem hlu)
  have l5 := s3.len
  have l6 := s4.len
  refine Ult.yes (decide_eq_true hlu) (Ult.bindc (at?_nat hlu) ?_)
  rw [drop_cons hlu, isucc hlu (by omega), List.find?_cons]
  have nx := next (a ++ [T[i].1]) hlt (by simp [ha])
  have n2 := next2 () hlu trivial
  cases hf1 : decide (T[i].2.1 = K[j])
  · have hk : ¬ T[i].2.1 = K[j] := of_decide_eq_false hf1
    rw [show fitT K[j] p q T[i] = false by unfold fitT; rw [if_neg hk]]
    exact Ult.jn (Ult.no (by rw [seq_eq, hf1]) (Ult.no rfl n2))
  have hk : T[i].2.1 = K[j] := of_decide_eq_true hf1
  cases hf2 : fitP T[i].2.2.1 p.2
  · rw [show fitT K[j] p q T[i] = false by unfold fitT; rw [if_pos hk, if_neg (by rw [hf2]; exact Bool.noConfusion)]]
    refine Ult.jn (Ult.yes (by rw [seq_eq, hf1]) ?_)
    refine Ult.bind (Ult.call (f := fun k => S104 k (T[i].2.2.1, p, ())) (lp_le _ _ (lp_le _ _ fun _ => Nat.le_refl _)) (S104_spec T[i].2.2.1 p (by omega) (by omega))) ?_
    exact Ult.no hf2 (Ult.no rfl n2)
  have e : fitT K[j] p q T[i] = fitP T[i].2.2.2 q.2 := by unfold fitT; rw [if_pos hk, if_pos hf2]
  rw [e]
  refine Ult.jn (Ult.yes (by rw [seq_eq, hf1]) ?_)
  refine Ult.bind (Ult.call (f := fun k => S104 k (T[i].2.2.1, p, ())) (lp_le _ _ (lp_le _ _ fun _ => Nat.le_refl _)) (S104_spec T[i].2.2.1 p (by omega) (by omega))) (Ult.yes hf2 ?_)
  refine Ult.bind (Ult.call (f := fun k => S104 k (T[i].2.2.2, q, ())) (lp_le _ _ (lp_le _ _ fun _ => Nat.le_refl _)) (S104_spec T[i].2.2.2 q (by omega) (by omega))) ?_
  cases hf3 : fitP T[i].2.2.2 q.2
  · exact Ult.no rfl n2
  · refine Ult.yes rfl (Ult.bindc (app?_ok (by rw [ha]; show (j + 1) * 16 ≤ _; omega)) (Ult.no rfl ?_))
    exact nx.lift

/-! ### Tools -/
abbrev Ans : Type := ByteArray × List ByteArray × Bool × Int
def orErr (n : Int) (r : Ans) : Ans := if n ≠ 0 then (⟨#[]⟩, [], false, n) else r
theorem orErr_ite {P : Prop} [Decidable P] {x y : Int} {r : Ans} : orErr (if P then x else y) r = if P then orErr x r else orErr y r := by split <;> rfl
theorem orErr_zero {r : Ans} : orErr 0 r = r := rfl
def kindsChk (K : List ByteArray) : Int := if 30 < K.length then 2 else chkKinds none K
def firstPlat (T : List Tool) (K : List ByteArray) (q : Platform) : List Platform → Ans
  | [] => (⟨#[]⟩, [], false, 0)
  | p :: r => if (toolsOn T p q [] K).2 = true then (p.1, (toolsOn T p q [] K).1, true, 0) else firstPlat T K q r
def toolsAns (P : List Platform) (T : List Tool) (K : List ByteArray) (q : Platform) : Ans :=
  orErr (chkPlatforms P) (orErr (chkTools T) (orErr (kindsChk K) (orErr (chkPlatforms [q]) (firstPlat T K q P))))
theorem PlatSz.one {q : Platform} (h1 : q.1.size ≤ 140737488351232) (h2 : PairSz q.2) : PlatSz [q] :=
  ⟨by show 1 * 40 ≤ _; omega, fun p hp => by rw [List.mem_singleton] at hp; subst hp; exact ⟨h1, h2⟩⟩
theorem first_loop {kk : ι → Nat} (hk : ∀ i, l i ≤ kk i) (T : List Tool) (K : List ByteArray) (q : Platform) (P : List Platform) (f : ι → Platform → Option (List ByteArray × Bool)) (hf : ∀ p ∈ P, Ult l (fun i => f i p) (toolsOn T p q [] K)) (hP : P.length ≤ 9223372036854775807) :
    Ult l (fun i => loopN (kk i) (fun (a6 : Int → Option Ans) (a7 : Int) => cnd (ilt a7 (len P)) (bnd (at? P a7) fun a8 => bnd (f i a8) fun a9 => cnd a9.2 (some (a8.1, a9.1, true, 0)) (a6 (iadd .i64 a7 1))) (some ((⟨#[]⟩ : ByteArray), ([] : List ByteArray), false, 0))) 0) (firstPlat T K q P) := by
  refine (Ult.forI hk P.length (fun j => firstPlat T K q (P.drop j)) fun j hj next => ?_).eq (by rw [List.drop_zero])
  rw [iltL]
  by_cases hlt' : ¬ j < P.length
  · refine Ult.no (decide_eq_false hlt') (Ult.ret.eq ?_)
    rw [List.drop_eq_nil_of_le (by omega)]; rfl
  have hlt : j < P.length := Decidable.not_not.1 hlt'
  refine Ult.yes (decide_eq_true hlt) (Ult.bindc (at?_nat hlt) (Ult.bind (hf _ (List.getElem_mem hlt)).lift ?_))
  rw [drop_cons hlt, firstPlat, isucc hlt hP]
  exact Ult.ifS (dec_true _) (fun _ => Ult.ret) (fun _ => next hlt)
theorem S27_spec (P : List Platform) (T : List Tool) (K : List ByteArray) (q : Platform) (hP : PlatSz P) (hT : ToolSz T) (hK : StrsSz K) (h1 : q.1.size ≤ 140737488351232) (h2 : PairSz q.2) : Ultk (fun k => S27 k (P, T, K, q, ())) (toolsAns P T K q) := by
  unfold S27 toolsAns
  have lP := len_big hP.1 (by omega)
  refine Ult.bind (S38_spec P hP) (Ult.ifS (ine_eq _ _) (fun _ => Ult.ret) fun _ => ?_)
  refine Ult.bind (S29_spec T hT) (Ult.ifS (ine_eq _ _) (fun _ => Ult.ret) fun _ => ?_)
  refine Ult.bind (S65_spec K hK) (Ult.ifS (ine_eq _ _) (fun _ => Ult.ret) fun _ => ?_)
  refine Ult.bind (S38_spec [q] (PlatSz.one h1 h2)) (Ult.ifS (ine_eq _ _) (fun _ => Ult.ret) fun _ => ?_)
  exact first_loop (l := fun k : Nat => k) (fun _ => Nat.le_refl _) T K q P (fun k p => S66 k (T, K, (p.1, p.2), (q.1, q.2), ())) (fun p hp => S66_spec T K p q hT hK (hP.2 p hp).2 h2) (by omega)
theorem S28_spec (P : List Platform) (T : List Tool) (K : List ByteArray) (q : Platform) (hP : PlatSz P) (hT : ToolSz T) (hK : StrsSz K) (h1 : q.1.size ≤ 140737488351232) (h2 : PairSz q.2) : Ultk (fun k => S28 k (P, T, K, q, ())) (toolsAns P T K q) := by
  unfold S28 toolsAns
  have lP := len_big hP.1 (by omega)
  have lK := len_big hK.1 (by omega)
  refine Ult.bind (S39_spec P hP) (Ult.ifS (ine_eq _ _) (fun _ => Ult.ret) fun _ => ?_)
  refine Ult.bind (S30_spec T hT) (Ult.ifS (ine_eq _ _) (fun _ => Ult.ret) fun _ => ?_)
  unfold kindsChk
  rw [orErr_ite]
  refine Ult.ifS (by rw [igt_eq]; unfold len; simp only [decide_eq_decide]; omega) (fun _ => Ult.ret) fun h30 => ?_
  refine (Ult.forI (fun _ => Nat.le_refl _) K.length (fun j => orErr (chkKinds (prevK K j) (K.drop j)) (orErr (chkPlatforms [q]) (firstPlat T K q P))) fun j hj next => ?_).eq (by rw [List.drop_zero]; rfl)
  dsimp only
  rw [iltL]
  by_cases hlt' : ¬ j < K.length
  · refine Ult.no (decide_eq_false hlt') ?_
    rw [List.drop_eq_nil_of_le (by omega), show chkKinds (prevK K j) [] = 0 by cases prevK K j <;> rfl, orErr_zero]
    refine Ult.bind (Ult.call (f := fun k => S39 k ([q], ())) (lp_le _ _ fun _ => Nat.le_refl _) (S39_spec [q] (PlatSz.one h1 h2))) (Ult.ifS (ine_eq _ _) (fun _ => Ult.ret) fun _ => ?_)
    have h := first_loop (l := fun k : Nat => k) (fun _ => Nat.le_refl _) T K q P (fun k p => S67 k ((p.1, p.2), T, K, (q.1, q.2), ())) (fun p hp => S67_spec T K p q hT hK (hP.2 p hp).2 h2) (by omega)
    exact Ult.lift h
  have hlt : j < K.length := Decidable.not_not.1 hlt'
  refine Ult.yes (decide_eq_true hlt) (Ult.bindc (at?_nat hlt) ?_)
  have s1 := hK.2 _ (List.getElem_mem hlt)
  rw [drop_cons hlt, chkKinds, ← prevK_succ hlt, isucc hlt (by omega), orErr_ite, orErr_ite]
  refine Ult.bind (Ult.call (f := fun k => S62 k (K[j], ())) (lp_le _ _ fun _ => Nat.le_refl _) (S62_spec K[j] (by omega))) (Ult.ifS (not_false_eq _) (fun _ => Ult.ret) fun _ => ?_)
  exact order_stepK hlt (by omega) Ult.ret (next hlt)

/-! ### the answer's kinds are short -/
theorem toolsOn_len {T : List Tool} {p q : Platform} : ∀ {K acc : List ByteArray}, (toolsOn T p q acc K).1.length ≤ acc.length + K.length
  | [], acc => Nat.le_refl _
  | kd :: r, acc => by
    rw [toolsOn]
    split
    · exact Nat.zero_le _
    · have := toolsOn_len (T := T) (p := p) (q := q) (K := r) (acc := acc ++ [(‹Tool›).1])
      simp only [List.length_append, List.length_cons, List.length_nil] at this ⊢
      omega
theorem firstPlat_len {T : List Tool} {K : List ByteArray} {q : Platform} : ∀ {P : List Platform}, (firstPlat T K q P).2.1.length ≤ K.length
  | [] => Nat.zero_le _
  | p :: r => by
    rw [firstPlat]
    split
    · have := toolsOn_len (T := T) (p := p) (q := q) (K := K) (acc := [])
      simpa using this
    · exact firstPlat_len
theorem orErr_len {n : Int} {r : Ans} {m : Nat} (h : r.2.1.length ≤ m) : (orErr n r).2.1.length ≤ m := by
  unfold orErr
  split
  · exact Nat.zero_le _
  · exact h
theorem toolsAns_len {P : List Platform} {T : List Tool} {K : List ByteArray} {q : Platform} : (toolsAns P T K q).2.1.length ≤ K.length := orErr_len (orErr_len (orErr_len (orErr_len firstPlat_len)))
end Go.Proofs.YtklmkonpilkfnaaDoor.Ev
