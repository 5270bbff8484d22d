/- The plain laws (this session's own). No condition but those in the statements. -/
import Derived.Test.YtonfimidgbppeaaGreatDoorPlPla0
import Derived.Lib.SplitLaws
import Derived.Lib.IndexMore
import Derived.Lib.Join
import Derived.Test.YtonfimidgbppeaaGreatDoorEvIt
import Derived.Test.YtonfimidgbppeaaGreatDoorEvCo
import Derived.Test.YtonfimidgbppeaaGreatDoorEvSs
namespace Go.Proofs.YtonfimidgbppeaaGreatDoor.Ev
open Go Go.RowKit
set_option linter.unusedVariables false
set_option linter.unusedSimpArgs false
variable {ι R α X : Type} {l : ι → Nat}
abbrev zCond : Condition := (⟨#[]⟩, [], [])
def condOf (M : List Condition) (n : ByteArray) : Option Condition := M.find? fun x => decide (x.1 = n)
def condAns (M : List Condition) (n : ByteArray) : Condition × Bool := match condOf M n with
  | some m => (m, true)
  | none => (zCond, false)
theorem condOf_prog (M : List Condition) (n : ByteArray) (hM : M.length ≤ 9223372036854775807) : Ultk (fun k => S56 k (M, n, ())) (condAns M n) := by
  unfold S56
  have hi : Ultk (fun k => S99 k (M, fun a2 => S100 k (a2, n, ()), ())) (idxF (fun x : Condition => decide (x.1 = n)) 0 M) := by
    unfold S99
    exact idx_loop (l := fun k : Nat => k) (fun _ => Nat.le_refl _) M (fun k a => S100 k (a, n, ())) _ (fun a _ => Ult.ret.eq (seq_eq _ _)) hM
  refine Ult.bind hi ?_
  unfold condAns condOf
  cases hf : M.find? (fun x : Condition => decide (x.1 = n)) with
  | none => exact Ult.yes (by rw [ilt_eq]; exact decide_eq_true (idxF_neg.2 hf)) Ult.ret
  | some m =>
    obtain ⟨h1, h2⟩ := idxF_at hf
    exact Ult.no (by rw [ilt_eq]; exact decide_eq_false (by omega)) (Ult.bindc h1 Ult.ret)
theorem condOf_ref (M : List Condition) (n : ByteArray) (hM : M.length ≤ 9223372036854775807) : Ultk (fun k => S48 k (M, n, ())) (condAns M n) := by
  unfold S48
  refine (Ult.forA (A := Condition) (fun _ => Nat.le_refl _) M.length (fun a j => ((j : Int), a)) (fun _ _ => True) (fun _ j => condAns (M.drop j) n) zCond trivial fun a j hj _ next => ?_).eq (by rw [List.drop_zero])
  dsimp only
  rw [iltL]
  by_cases hlt' : ¬ j < M.length
  · refine Ult.no (decide_eq_false hlt') (Ult.ret.eq ?_)
    rw [List.drop_eq_nil_of_le (by omega)]; rfl
  have hlt : j < M.length := Decidable.not_not.1 hlt'
  refine Ult.yes (decide_eq_true hlt) (Ult.bindc (at?_nat hlt) ?_)
  rw [isucc hlt hM]
  by_cases hn : M[j].1 = n
  · refine Ult.yes (by rw [seq_eq]; exact decide_eq_true hn) (Ult.ret.eq ?_)
    unfold condAns condOf
    rw [drop_cons hlt, List.find?_cons, decide_eq_true hn]
  · refine Ult.no (by rw [seq_eq]; exact decide_eq_false hn) ?_
    have : condAns (M.drop j) n = condAns (M.drop (j + 1)) n := by
      unfold condAns condOf
      rw [drop_cons hlt, List.find?_cons, decide_eq_false hn]
    rw [this]
    exact next a hlt trivial
/-! ### the names of conditions in a value -/
def okName (M : List Condition) (c : Case) : Bool := (condOf M c.1).isSome || decide (c.1 = dflt)
def chkNames (M : List Condition) (C : List Case) : Int := if C.all (okName M) = true then 0 else 5
theorem names_loop {kk : ι → Nat} (hk : ∀ i, l i ≤ kk i) (M : List Condition) (C : List Case) (f : ι → ByteArray → Option (Condition × Bool)) (hf : ∀ n, Ult l (fun i => f i n) (condAns M n)) (hC : C.length ≤ 9223372036854775807) :
    Ult l (fun i => loopN (kk i) (fun (a2 : Int → Option Int) (a3 : Int) => cnd (ilt a3 (len C)) (bnd (at? C a3) fun a4 => bnd (f i a4.1) fun a5 => cnd (bnot a5.2) (cnd (sne a4.1 (⟨#[100, 101, 102, 97, 117, 108, 116]⟩ : ByteArray)) (some 5) (a2 (iadd .i64 a3 1))) (a2 (iadd .i64 a3 1))) (some 0)) 0) (chkNames M C) := by
  refine (Ult.forI hk C.length (fun j => chkNames M (C.drop j)) fun j hj next => ?_).eq (by rw [List.drop_zero])
  rw [iltL]
  by_cases hlt' : ¬ j < C.length
  · refine Ult.no (decide_eq_false hlt') (Ult.ret.eq ?_)
    rw [List.drop_eq_nil_of_le (by omega)]; rfl
  have hlt : j < C.length := Decidable.not_not.1 hlt'
  refine Ult.yes (decide_eq_true hlt) (Ult.bindc (at?_nat hlt) (Ult.bind (hf C[j].1).lift ?_))
  have nx := next hlt
  rw [isucc hlt hC]
  have e : chkNames M (C.drop j) = if okName M C[j] = true then chkNames M (C.drop (j + 1)) else 5 := by
    unfold chkNames
    rw [drop_cons hlt, List.all_cons]
    cases okName M C[j] <;> rfl
  rw [e]
  unfold condAns okName
  cases hc : condOf M C[j].1 with
  | some m => exact Ult.no rfl nx
  | none =>
    refine Ult.yes rfl ?_
    by_cases hd : C[j].1 = dflt
    · refine Ult.no (by rw [sne_eq]; exact decide_eq_false (fun q => q hd)) ?_
      rw [decide_eq_true hd]; exact nx
    · refine Ult.yes (by rw [sne_eq]; exact decide_eq_true hd) ?_
      rw [decide_eq_false hd]; exact Ult.ret
theorem names_prog (M : List Condition) (v : V1) (hM : M.length ≤ 9223372036854775807) (hC : v.2.2.2.2.length ≤ 9223372036854775807) : Ultk (fun k => S55 k (M, v, ())) (chkNames M v.2.2.2.2) := by
  unfold S55
  exact names_loop (l := fun k : Nat => k) (fun _ => Nat.le_refl _) M v.2.2.2.2 (fun k n => S56 k (M, n, ())) (fun n => condOf_prog M n hM) hC
theorem names_ref (x : CWorld) (v : V1) (hM : x.2.1.length ≤ 9223372036854775807) (hC : v.2.2.2.2.length ≤ 9223372036854775807) : Ultk (fun k => S47 k (x, v, ())) (chkNames x.2.1 v.2.2.2.2) := by
  unfold S47
  exact names_loop (l := fun k : Nat => k) (fun _ => Nat.le_refl _) x.2.1 v.2.2.2.2 (fun k n => S48 k (x.2.1, n, ())) (fun n => condOf_ref x.2.1 n hM) hC
/-! ### which condition is more special -/
def isM (a b : Condition) : Bool := if fitP b.2.1 a.2.1 = true then (if fitP b.2.2 a.2.2 = true then igt (iadd .i64 (len a.2.1) (len a.2.2)) (iadd .i64 (len b.2.1) (len b.2.2)) else false) else false
theorem isM_prog (a b : Condition) (a1 : PairSz a.2.1) (a2 : PairSz a.2.2) (b1 : PairSz b.2.1) (b2 : PairSz b.2.2) : Ultk (fun k => S81 k (a, b, ())) (isM a b) := by
  have := a1.len; have := a2.len; have := b1.len; have := b2.len
  unfold S81 isM
  refine Ult.bind (S126_spec b.2.1 a.2.1 (by omega) (by omega)) (Ult.ifS (dec_true _) (fun _ => ?_) fun _ => Ult.ret)
  exact Ult.bind (S126_spec b.2.2 a.2.2 (by omega) (by omega)) (Ult.ifS (dec_true _) (fun _ => Ult.ret) fun _ => Ult.ret)
theorem has_spec (A B : List Pair) (hA : A.length ≤ 9223372036854775807) (hB : B.length ≤ 9223372036854775807) : Ultk (fun k => S118 k (A, B, ())) (fitP B A) := by
  unfold S118
  have h := all_loop (l := fun k : Nat => k) (fun _ => Nat.le_refl _) B (fun k a => S158 k (A, (a.1, a.2), ())) (fun p => hasP A p) (Ult.ret (r := true)) (Ult.ret (r := false)) (fun a _ => S158_spec A a hA) hB
  exact h.eq (if_all _)
theorem isM_ref (a b : Condition) (a1 : PairSz a.2.1) (a2 : PairSz a.2.2) (b1 : PairSz b.2.1) (b2 : PairSz b.2.2) : Ultk (fun k => S68 k (a, b, ())) (isM a b) := by
  have := a1.len; have := a2.len; have := b1.len; have := b2.len
  unfold S68 isM
  refine Ult.bind (has_spec a.2.1 b.2.1 (by omega) (by omega)) (Ult.ifS (dec_true _) (fun _ => ?_) fun _ => Ult.ret)
  exact Ult.bind (has_spec a.2.2 b.2.2 (by omega) (by omega)) (Ult.ifS (dec_true _) (fun _ => Ult.ret) fun _ => Ult.ret)
/-! ### equal values -/
theorem strs_eq (A B : List ByteArray) (hA : A.length ≤ 9223372036854775807) : Ultk (fun k => S25 k (A, B, ())) (decide (A = B)) := by
  unfold S25
  by_cases hl : A.length = B.length
  · refine Ult.no (by rw [ine_eq]; exact decide_eq_false (fun q => q (by show ((A.length : Nat) : Int) = (B.length : Nat); rw [hl]))) ?_
    refine (Ult.forI (fun _ => Nat.le_refl _) A.length (fun j => decide (A.drop j = B.drop j)) fun j hj next => ?_).eq (by rw [List.drop_zero, List.drop_zero])
    dsimp only
    rw [iltL]
    by_cases hlt' : ¬ j < A.length
    · refine Ult.no (decide_eq_false hlt') (Ult.ret.eq ?_)
      rw [List.drop_eq_nil_of_le (by omega), List.drop_eq_nil_of_le (by omega)]; rfl
    have hlt : j < A.length := Decidable.not_not.1 hlt'
    have hltB : j < B.length := by omega
    refine Ult.yes (decide_eq_true hlt) (Ult.bindc (at?_nat hlt) (Ult.bindc (at?_nat hltB) ?_))
    have e : decide (A.drop j = B.drop j) = (decide (A[j] = B[j]) && decide (A.drop (j + 1) = B.drop (j + 1))) := by
      have e1 := drop_cons hlt
      have e2 := drop_cons hltB
      rw [e1, e2]
      by_cases h1 : A[j] = B[j]
      · rw [decide_eq_true h1, Bool.true_and]
        exact decide_eq_decide.2 ⟨fun q => (List.cons.inj q).2, fun q => by rw [h1, q]⟩
      · rw [decide_eq_false h1, Bool.false_and]
        exact decide_eq_false fun q => h1 (List.cons.inj q).1
    rw [e, isucc hlt hA]
    by_cases he : A[j] = B[j]
    · refine Ult.no (by rw [sne_eq]; exact decide_eq_false (fun q => q he)) ((next hlt).eq ?_)
      rw [decide_eq_true he, Bool.true_and]
    · refine Ult.yes (by rw [sne_eq]; exact decide_eq_true he) (Ult.ret.eq ?_)
      rw [decide_eq_false he, Bool.false_and]
  · refine Ult.yes (by rw [ine_eq]; exact decide_eq_true (fun q => hl (Int.ofNat.inj q))) (Ult.ret.eq ?_)
    exact (decide_eq_false (fun q => hl (by rw [q]))).symm
theorem noCases {kk : ι → Nat} (hk : ∀ i, l i ≤ kk i) (n : Nat) (hn : n = 0) {r : R} : Ult l (fun i => loopN (kk i) (fun (a2 : Int → Option R) (a3 : Int) => cnd (ilt a3 (olen n)) none (some r)) 0) r := by
  subst hn
  refine Ult.forI hk 0 (fun _ => r) fun j hj next => ?_
  obtain rfl : j = 0 := by omega
  exact Ult.no rfl Ult.ret
def eqV0 (a b : V0) : Bool := decide (a.1 = b.1 ∧ a.2.1 = b.2.1 ∧ a.2.2.1 = b.2.2.1 ∧ a.2.2.2.1 = b.2.2.2.1 ∧ a.2.2.2.2 = b.2.2.2.2)
theorem eqV0_iff {a b : V0} : eqV0 a b = true ↔ a = b := by
  obtain ⟨a1, a2, a3, a4, a5⟩ := a
  obtain ⟨b1, b2, b3, b4, b5⟩ := b
  unfold eqV0
  simp
theorem eqV0_comm (a b : V0) : eqV0 a b = eqV0 b a := by
  cases h : eqV0 a b with
  | true => rw [eqV0_iff.1 h]; exact (eqV0_iff.2 rfl).symm
  | false =>
    cases h' : eqV0 b a with
    | false => rfl
    | true => rw [eqV0_iff.1 h', eqV0_iff.2 rfl] at h; cases h
theorem eq_prog (a b : V0) (hl : a.2.2.2.1.length ≤ 9223372036854775807) (ha : a.2.2.2.2 = 0) : Ultk (fun k => S1080 k (a, b, ())) (eqV0 a b) := by
  unfold S1080 eqV0
  by_cases h1 : a.1 = b.1
  case neg => exact Ult.no (by rw [ieq_eq]; exact decide_eq_false h1) (Ult.ret.eq (decide_eq_false fun q => h1 q.1).symm)
  refine Ult.yes (by rw [ieq_eq]; exact decide_eq_true h1) ?_
  by_cases h2 : a.2.1 = b.2.1
  case neg => exact Ult.no (by rw [seq_eq]; exact decide_eq_false h2) (Ult.ret.eq (decide_eq_false fun q => h2 q.2.1).symm)
  refine Ult.yes (by rw [seq_eq]; exact decide_eq_true h2) ?_
  by_cases h3 : a.2.2.1 = b.2.2.1
  case neg => exact Ult.no (by rw [ieq_eq]; exact decide_eq_false h3) (Ult.ret.eq (decide_eq_false fun q => h3 q.2.2.1).symm)
  refine Ult.yes (by rw [ieq_eq]; exact decide_eq_true h3) (Ult.bind (strs_eq a.2.2.2.1 b.2.2.2.1 hl) ?_)
  by_cases h4 : a.2.2.2.1 = b.2.2.2.1
  case neg => exact Ult.no (decide_eq_false h4) (Ult.ret.eq (decide_eq_false fun q => h4 q.2.2.2.1).symm)
  refine Ult.yes (decide_eq_true h4) (Ult.bind (a := decide (a.2.2.2.2 = b.2.2.2.2)) ?_ (Ult.ret.eq ?_))
  · unfold S1127
    by_cases h5 : a.2.2.2.2 = b.2.2.2.2
    · refine Ult.no (c := ine (olen a.2.2.2.2) (olen b.2.2.2.2)) (by rw [ine_eq]; exact decide_eq_false (fun q => q (by show olen a.2.2.2.2 = olen b.2.2.2.2; rw [h5]))) ?_
      rw [decide_eq_true h5]
      exact noCases (l := fun k : Nat => k) (fun _ => Nat.le_refl _) a.2.2.2.2 ha
    · refine Ult.yes (c := ine (olen a.2.2.2.2) (olen b.2.2.2.2)) (by rw [ine_eq]; exact decide_eq_true (fun q => h5 (Int.ofNat.inj q))) (Ult.ret.eq (decide_eq_false h5).symm)
  · exact decide_eq_decide.2 ⟨fun q => ⟨h1, h2, h3, h4, q⟩, fun q => q.2.2.2.2⟩
theorem eq_ref (a b : V0) (hl : a.2.2.2.1.length ≤ 9223372036854775807) (ha : a.2.2.2.2 = 0) : Ultk (fun k => S1013 k (a, b, ())) (eqV0 a b) := by
  unfold S1013 eqV0
  refine Ult.jn ?_
  by_cases h1 : a.1 = b.1
  case neg => exact Ult.yes (by rw [ine_eq]; exact decide_eq_true h1) (Ult.yes rfl (Ult.ret.eq (decide_eq_false fun q => h1 q.1).symm))
  refine Ult.no (by rw [ine_eq]; exact decide_eq_false (fun q => q h1)) ?_
  by_cases h2 : a.2.1 = b.2.1
  case neg => exact Ult.yes (by rw [sne_eq]; exact decide_eq_true h2) (Ult.yes rfl (Ult.ret.eq (decide_eq_false fun q => h2 q.2.1).symm))
  refine Ult.no (by rw [sne_eq]; exact decide_eq_false (fun q => q h2)) ?_
  by_cases h3 : a.2.2.1 = b.2.2.1
  case neg => exact Ult.yes (by rw [ine_eq]; exact decide_eq_true h3) (Ult.yes rfl (Ult.ret.eq (decide_eq_false fun q => h3 q.2.2.1).symm))
  refine Ult.no (by rw [ine_eq]; exact decide_eq_false (fun q => q h3)) (Ult.bind (strs_eq a.2.2.2.1 b.2.2.2.1 hl) ?_)
  by_cases h4 : a.2.2.2.1 = b.2.2.2.1
  case neg => exact Ult.yes (by rw [decide_eq_false h4]; rfl) (Ult.yes rfl (Ult.ret.eq (decide_eq_false fun q => h4 q.2.2.2.1).symm))
  refine Ult.no (by rw [decide_eq_true h4]; rfl) ?_
  by_cases h5 : a.2.2.2.2 = b.2.2.2.2
  · refine Ult.no (c := ine (olen a.2.2.2.2) (olen b.2.2.2.2)) (by rw [ine_eq]; exact decide_eq_false (fun q => q (by show olen a.2.2.2.2 = olen b.2.2.2.2; rw [h5]))) ?_
    rw [decide_eq_true ⟨h1, h2, h3, h4, h5⟩]
    exact noCases (l := fun k : Nat => k) (fun _ => Nat.le_refl _) a.2.2.2.2 ha
  · refine Ult.yes (c := ine (olen a.2.2.2.2) (olen b.2.2.2.2)) (by rw [ine_eq]; exact decide_eq_true (fun q => h5 (Int.ofNat.inj q))) (Ult.ret.eq (decide_eq_false fun q => h5 q.2.2.2.2).symm)
/-! ### copies -/
def upv (v : V0) : V1 := (v.1, v.2.1, v.2.2.1, v.2.2.2.1, [])
theorem own_spec (v : V0) (hs : StrsSz v.2.2.2.1) (h0 : v.2.2.2.2 = 0) : Ultk (fun k => S1076 k (v, ())) (upv v) := by
  have hr : Ultk (fun k => R1076 k (v, ())) v := by
    obtain ⟨a, b, c, d, n⟩ := v
    have h0 : n = 0 := h0
    subst h0
    unfold R1076
    refine Ult.bind (S38_spec d (by have h16 : d.length * 16 ≤ 140737488351232 := hs.1; omega)) (Ult.bindc (a := (0 : Nat)) rfl ?_)
    exact noCases (l := fun k : Nat => k) (fun _ => Nat.le_refl _) 0 rfl
  obtain ⟨K, hK⟩ := hr
  refine ⟨K, fun i hi => ?_⟩
  show upF (R1076 i (v, ())) = _
  have := hK i hi
  rw [show R1076 i (v, ()) = some v from this]
  show upV v = some (upv v)
  unfold upV
  rw [show (v.2.2.2.2 : Nat) = 0 from h0]
  rfl
theorem copy0_spec (v : V0) (hs : StrsSz v.2.2.2.1) (h0 : v.2.2.2.2 = 0) : Ultk (fun k => S1011 k (v, ())) v := by
  obtain ⟨a, b, c, d, n⟩ := v
  have h0 : n = 0 := h0
  subst h0
  unfold S1011
  refine Ult.bind (S38_spec d (by have h16 : d.length * 16 ≤ 140737488351232 := hs.1; omega)) ?_
  refine Ult.forA (A := Nat) (fun _ => Nat.le_refl _) 0 (fun a j => (a, (j : Int))) (fun a _ => a = 0) (fun _ _ => _) 0 rfl fun x j hj hx next => ?_
  subst hx
  obtain rfl : j = 0 := by omega
  exact Ult.no rfl Ult.ret
theorem copy1_spec (v : V1) (h : V1Sz v) (h0 : ∀ c ∈ v.2.2.2.2, c.2.2.2.2.2 = 0) (h50 : v.2.2.2.2.length ≤ 50) : Ultk (fun k => S11 k (v, ())) v := by
  obtain ⟨a, b, c, d, L⟩ := v
  unfold S11
  have hlen := cases_len h.2.2
  refine Ult.bind (S38_spec d (by have := h.2.1.1; have h' : d.length * 16 ≤ 140737488351232 := this; omega)) ?_
  refine Ult.copyI (fun _ => Nat.le_refl _) L (fun v j => (v, (j : Int))) _ ?_ fun j hlt next => ?_
  · exact Ult.no (iltE L) Ult.ret
  · have hlt : j < L.length := hlt
    refine Ult.yes (by rw [iltL]; exact decide_eq_true hlt) (Ult.bindc (at?_nat hlt) ?_)
    obtain ⟨s1, s2⟩ := h.2.2.2 _ (List.getElem_mem hlt)
    refine Ult.bind (Ult.call (f := fun k => S1011 k (L[j].2, ())) (lp_le _ _ fun _ => Nat.le_refl _) (copy0_spec L[j].2 s2.2 (h0 _ (List.getElem_mem hlt)))) ?_
    have h50' : L.length ≤ 50 := h50
    refine Ult.bindc (app?_ok (by rw [takeL hlt]; simp only [List.length_cons, List.length_nil]; show (j + (0 + 1)) * 96 ≤ _; omega)) ?_
    rw [isucc hlt hlen]
    exact next
theorem same_self (v : V1) (h : V1Sz v) (h0 : ∀ c ∈ v.2.2.2.2, c.2.2.2.2.2 = 0) : Ultk (fun k => S13 k (v, v, ())) true := by
  obtain ⟨a, b, c, d, L⟩ := v
  unfold S13
  have hlen : L.length ≤ 9223372036854775807 := cases_len h.2.2
  have hd : d.length ≤ 9223372036854775807 := by have : d.length * 16 ≤ 140737488351232 := h.2.1.1; omega
  refine Ult.jn ?_
  refine Ult.no (by rw [ine_eq]; simp) (Ult.no (by rw [sne_eq]; simp) (Ult.no (by rw [ine_eq]; simp) (Ult.bind (S25_self d hd) (Ult.no rfl (Ult.no (by rw [ine_eq]; simp) ?_)))))
  refine Ult.forI (fun _ => Nat.le_refl _) L.length (fun _ => true) fun j hj next => ?_
  dsimp only
  rw [iltL]
  by_cases hlt' : ¬ j < L.length
  · exact Ult.no (decide_eq_false hlt') Ult.ret
  have hlt : j < L.length := Decidable.not_not.1 hlt'
  obtain ⟨s1, s2⟩ := h.2.2.2 _ (List.getElem_mem hlt)
  refine Ult.yes (decide_eq_true hlt) (Ult.bindc (at?_nat hlt) (Ult.bindc (at?_nat hlt) (Ult.no (by rw [sne_eq]; simp) (Ult.bindc (at?_nat hlt) (Ult.bindc (at?_nat hlt) ?_)))))
  have he := eq_ref L[j].2 L[j].2 (by have := s2.2.1; omega) (h0 _ (List.getElem_mem hlt))
  rw [eqV0_iff.2 rfl] at he
  refine Ult.bind (Ult.call (f := fun k => S1013 k (L[j].2, L[j].2, ())) (lp_le _ _ fun _ => Nat.le_refl _) he) (Ult.no rfl ?_)
  rw [isucc hlt hlen]
  exact next hlt
end Go.Proofs.YtonfimidgbppeaaGreatDoor.Ev

namespace Go.Proofs.YtonfimidgbppeaaGreatDoor.Ev
open Go Go.RowKit
set_option linter.unusedVariables false
set_option linter.unusedSimpArgs false
variable {ι R α X : Type} {l : ι → Nat}
abbrev zV0 : V0 := (0, ⟨#[]⟩, 0, [], 0)
abbrev zV1 : V1 := (0, ⟨#[]⟩, 0, [], [])
/-! ### facts of right conditions -/
theorem chkConds_all {L : List Setting} : ∀ {M : List Condition} {prev : Option ByteArray}, chkConds L prev M = 0 → ∀ m ∈ M, isCond m.1 = true ∧ chkSet L false none m.2.1 = 0
  | [], _, _, m, hm => by cases hm
  | a :: M, prev, h, m, hm => by
    rw [chkConds] at h
    split at h
    · cases h
    rename_i h1
    split at h
    · cases h
    split at h
    · cases h
    split at h
    · rename_i q; exact absurd h q
    rename_i h2
    split at h
    · rename_i q; exact absurd h q
    split at h
    · cases h
    rcases List.mem_cons.1 hm with rfl | hm
    · exact ⟨by simpa using h1, Decidable.not_not.1 h2⟩
    · exact chkConds_all h m hm
structure CondsOk (L : List Setting) (M : List Condition) : Prop where
  set : chkSettings L = 0
  each : ∀ m ∈ M, m.1 ≠ dflt ∧ chkSet L false none m.2.1 = 0
theorem CondsOk.of {L : List Setting} {M : List Condition} (h : chkConditions L M = 0) : CondsOk L M := by
  unfold chkConditions at h
  split at h
  · rename_i q; exact absurd h q
  rename_i h1
  split at h
  · cases h
  refine ⟨Decidable.not_not.1 h1, fun m hm => ?_⟩
  obtain ⟨q1, q2⟩ := chkConds_all h m hm
  refine ⟨?_, q2⟩
  unfold isCond at q1
  simp only [Bool.and_eq_true, decide_eq_true_eq] at q1
  exact q1.2.2
theorem CondsOk.vals {L : List Setting} {M : List Condition} (h : CondsOk L M) {C : List Pair} {m : Condition} (hm : m ∈ M) : ∀ n ∈ m.2.1, ∃ v, valOf L C n.1 = some v := fun n hn => by
  obtain ⟨s, hs, _⟩ := (chkSet_ok (h.each m hm).2).1 n hn
  exact valOf_some h.set hs
theorem condOf_mem {M : List Condition} {n : ByteArray} {m : Condition} (h : condOf M n = some m) : m ∈ M ∧ m.1 = n := by
  unfold condOf at h
  exact ⟨List.mem_of_find?_eq_some h, by simpa using List.find?_some h⟩
/-! ### what holds -/
def holdC (x : CWorld) (C : List Pair) (p : Platform) (c : Case) : Option Condition := match condOf x.2.1 c.1 with
  | some m => if holdsB x.1 m C p = true then some m else none
  | none => none
def held (x : CWorld) (C : List Pair) (p : Platform) (L : List Case) : List (Case × Condition) := L.filterMap fun c => (holdC x C p c).map fun m => (c, m)
def bestL (i : Nat) (a : Condition) : Nat → List Condition → Bool
  | _, [] => true
  | k, b :: r => (decide (k = i) || isM a b) && bestL i a (k + 1) r
def CondsSz (W : List Condition) : Prop := W.length ≤ 1000 ∧ ∀ m ∈ W, PairSz m.2.1 ∧ PairSz m.2.2
theorem best_prog {kk : ι → Nat} (hk : ∀ i, l i ≤ kk i) (W : List Condition) (n : Int) (hn : n = len W) (i : Nat) (hi : i < W.length) (f : ι → Condition → Condition → Option Bool) (hf : ∀ a ∈ W, ∀ b ∈ W, Ult l (fun j => f j a b) (isM a b)) (hW : W.length ≤ 1000) {r1 r2 : R} {y z : ι → Option R} (hy : Ult l y r1) (hz : Ult l z r2) :
    Ult l (fun q => loopN (kk q) (fun (a8 : Bool × Int → Option R) (a9 : Bool × Int) => cnd (ilt a9.2 n) (cnd a9.1 (cnd (ieq a9.2 (i : Int)) (a8 (true, iadd .i64 a9.2 1)) (bnd (at? W (i : Int)) fun a10 => bnd (at? W a9.2) fun a11 => bnd (f q a10 a11) fun a12 => a8 (a12, iadd .i64 a9.2 1))) (a8 (false, iadd .i64 a9.2 1))) (cnd a9.1 (y q) (z q))) (true, 0)) (if bestL i W[i] 0 W = true then r1 else r2) := by
  subst hn
  refine (Ult.forA (A := Bool) hk W.length (fun a j => (a, (j : Int))) (fun _ _ => True) (fun a j => if (a && bestL i W[i] j (W.drop j)) = true then r1 else r2) true trivial fun a j hj _ next => ?_).eq (by rw [List.drop_zero, Bool.true_and])
  dsimp only
  rw [iltL]
  by_cases hlt' : ¬ j < W.length
  · refine Ult.no (decide_eq_false hlt') ?_
    rw [List.drop_eq_nil_of_le (by omega)]
    cases a with
    | true => exact Ult.yes rfl (hy.lift.eq rfl)
    | false => exact Ult.no rfl (hz.lift.eq rfl)
  have hlt : j < W.length := Decidable.not_not.1 hlt'
  refine Ult.yes (decide_eq_true hlt) ?_
  rw [drop_cons hlt, bestL, isucc hlt (by omega)]
  cases a with
  | false => exact Ult.no rfl ((next false hlt trivial).eq rfl)
  | true =>
    refine Ult.yes rfl ?_
    rw [Bool.true_and]
    by_cases hji : j = i
    · refine Ult.yes (by rw [ieq_eq]; exact decide_eq_true (by omega)) ((next true hlt trivial).eq ?_)
      rw [decide_eq_true hji, Bool.true_or, Bool.true_and]
    · refine Ult.no (by rw [ieq_eq]; exact decide_eq_false (by omega)) (Ult.bindc (at?_nat hi) (Ult.bindc (at?_nat hlt) (Ult.bind (hf _ (List.getElem_mem hi) _ (List.getElem_mem hlt)).lift ((next _ hlt trivial).eq ?_))))
      rw [decide_eq_false hji, Bool.false_or]
theorem best_ref {kk : ι → Nat} (hk : ∀ i, l i ≤ kk i) (W : List Condition) (i : Nat) (hi : i < W.length) (f : ι → Condition → Condition → Option Bool) (hf : ∀ a ∈ W, ∀ b ∈ W, Ult l (fun j => f j a b) (isM a b)) (hW : W.length ≤ 1000) {r1 r2 : R} {y z : ι → Option R} (hy : Ult l y r1) (hz : Ult l z r2) :
    Ult l (fun q => loopN (kk q) (fun (a9 : Bool × Int → Option R) (a10 : Bool × Int) => cnd (ilt a10.2 (len W)) (bnd (at? W a10.2) fun a11 => cnd a10.1 (cnd (ieq (i : Int) a10.2) (a9 (true, iadd .i64 a10.2 1)) (bnd (at? W (i : Int)) fun a12 => bnd (f q a12 a11) fun a13 => a9 (a13, iadd .i64 a10.2 1))) (a9 (false, iadd .i64 a10.2 1))) (cnd a10.1 (y q) (z q))) (true, 0)) (if bestL i W[i] 0 W = true then r1 else r2) := by
  refine (Ult.forA (A := Bool) hk W.length (fun a j => (a, (j : Int))) (fun _ _ => True) (fun a j => if (a && bestL i W[i] j (W.drop j)) = true then r1 else r2) true trivial fun a j hj _ next => ?_).eq (by rw [List.drop_zero, Bool.true_and])
  dsimp only
  rw [iltL]
  by_cases hlt' : ¬ j < W.length
  · refine Ult.no (decide_eq_false hlt') ?_
    rw [List.drop_eq_nil_of_le (by omega)]
    cases a with
    | true => exact Ult.yes rfl (hy.lift.eq rfl)
    | false => exact Ult.no rfl (hz.lift.eq rfl)
  have hlt : j < W.length := Decidable.not_not.1 hlt'
  refine Ult.yes (decide_eq_true hlt) (Ult.bindc (at?_nat hlt) ?_)
  rw [drop_cons hlt, bestL, isucc hlt (by omega)]
  cases a with
  | false => exact Ult.no rfl ((next false hlt trivial).eq rfl)
  | true =>
    refine Ult.yes rfl ?_
    rw [Bool.true_and]
    by_cases hji : j = i
    · refine Ult.yes (by rw [ieq_eq]; exact decide_eq_true (by omega)) ((next true hlt trivial).eq ?_)
      rw [decide_eq_true hji, Bool.true_or, Bool.true_and]
    · refine Ult.no (by rw [ieq_eq]; exact decide_eq_false (by omega)) (Ult.bindc (at?_nat hi) (Ult.bind (hf _ (List.getElem_mem hi) _ (List.getElem_mem hlt)).lift ((next _ hlt trivial).eq ?_)))
      rw [decide_eq_false hji, Bool.false_or]
end Go.Proofs.YtonfimidgbppeaaGreatDoor.Ev

namespace Go.Proofs.YtonfimidgbppeaaGreatDoor.Ev
open Go Go.RowKit
set_option linter.unusedVariables false
set_option linter.unusedSimpArgs false
variable {ι R α X : Type} {l : ι → Nat}
def pickA (W : List Condition) (v0 : V0) : Bool → Nat → List (Case × Condition) → V0 × Int
  | same, _, [] => if same = true then (v0, 0) else (zV0, 12)
  | same, j, s :: r => if bestL j s.2 0 W = true then (s.1.2, 0) else pickA W v0 (same && eqV0 v0 s.1.2) (j + 1) r
def upA (a : V0 × Int) : V1 × Int := (upv a.1, a.2)
theorem atF {S : List (Case × Condition)} {j : Nat} (h : j < S.length) : at? (S.map (·.1)) (j : Int) = some S[j].1 := by
  rw [at?_nat (by simpa using h)]; simp
theorem second_prog {kk : ι → Nat} (hk : ∀ i, l i ≤ kk i) (S : List (Case × Condition)) (hS : 0 < S.length) (h50 : S.length ≤ 50) (eqf : ι → V0 → V0 → Option Bool) (own : ι → V0 → Option V1) (more : ι → Condition → Condition → Option Bool)
    (heq : ∀ s ∈ S, ∀ t ∈ S, Ult l (fun q => eqf q s.1.2 t.1.2) (eqV0 s.1.2 t.1.2)) (hown : ∀ s ∈ S, Ult l (fun q => own q s.1.2) (upv s.1.2)) (hmore : ∀ a ∈ S.map (·.2), ∀ b ∈ S.map (·.2), Ult l (fun q => more q a b) (isM a b)) (jk : V1) :
    Ult l (fun q => loopN (kk q) (fun (a5 : Bool × Int × V1 → Option (V1 × Int)) (a6 : Bool × Int × V1) => cnd (ilt a6.2.1 (len (S.map (·.1)))) (jn (fun (a7 : Bool → Option (V1 × Int)) => cnd a6.1 (bnd (at? (S.map (·.1)) 0) fun a8 => bnd (at? (S.map (·.1)) a6.2.1) fun a9 => bnd (eqf q a8.2 a9.2) fun a10 => a7 a10) (a7 false)) (fun (a7 : Bool) =>
      loopN (kk q) (fun (a8 : Bool × Int → Option (V1 × Int)) (a9 : Bool × Int) => cnd (ilt a9.2 (len (S.map (·.1)))) (cnd a9.1 (cnd (ieq a9.2 a6.2.1) (a8 (true, iadd .i64 a9.2 1)) (bnd (at? (S.map (·.2)) a6.2.1) fun a10 => bnd (at? (S.map (·.2)) a9.2) fun a11 => bnd (more q a10 a11) fun a12 => a8 (a12, iadd .i64 a9.2 1))) (a8 (false, iadd .i64 a9.2 1))) (cnd a9.1 (bnd (at? (S.map (·.1)) a6.2.1) fun a10 => bnd (own q a10.2) fun a11 => some (a11, 0)) (a5 (a7, iadd .i64 a6.2.1 1, a6.2.2)))) (true, 0)))
      (cnd a6.1 (bnd (at? (S.map (·.1)) 0) fun a7 => bnd (own q a7.2) fun a8 => some (a8, 0)) (some (zV1, 12)))) (true, 0, jk)) (upA (pickA (S.map (·.2)) S[0].1.2 true 0 S)) := by
  have hlW : (S.map (·.2)).length = S.length := by simp
  have h0 : at? (S.map (·.1)) 0 = some S[0].1 := atF (j := 0) hS
  refine (Ult.forA (A := Bool) hk S.length (fun a j => (a, (j : Int), jk)) (fun _ _ => True) (fun a j => upA (pickA (S.map (·.2)) S[0].1.2 a j (S.drop j))) true trivial fun a j hj _ next => ?_).eq (by rw [List.drop_zero])
  dsimp only
  have hlT : len (S.map (·.1)) = len S := by unfold len; rw [List.length_map]
  by_cases hlt' : ¬ j < S.length
  · refine Ult.no (by rw [hlT, iltL]; exact decide_eq_false hlt') ?_
    rw [List.drop_eq_nil_of_le (by omega), pickA]
    cases a with
    | true => exact Ult.yes rfl (Ult.bindc h0 (Ult.bind (hown _ (List.getElem_mem hS)).lift Ult.ret))
    | false => exact Ult.no rfl Ult.ret
  have hlt : j < S.length := Decidable.not_not.1 hlt'
  refine Ult.yes (by rw [hlT, iltL]; exact decide_eq_true hlt) (Ult.jn ?_)
  have hjW : j < (S.map (·.2)).length := by rw [hlW]; exact hlt
  have hWj : (S.map (·.2))[j] = S[j].2 := by simp
  rw [drop_cons hlt, pickA, isucc hlt (by omega)]
  have inner : ∀ z : ι × Nat → Option (V1 × Int), Ult (lp l) z (upA (pickA (S.map (·.2)) S[0].1.2 (a && eqV0 S[0].1.2 S[j].1.2) (j + 1) (S.drop (j + 1)))) → Ult (lp l) (fun p => loopN (kk p.1) (fun (a8 : Bool × Int → Option (V1 × Int)) (a9 : Bool × Int) => cnd (ilt a9.2 (len (S.map (·.1)))) (cnd a9.1 (cnd (ieq a9.2 (j : Int)) (a8 (true, iadd .i64 a9.2 1)) (bnd (at? (S.map (·.2)) (j : Int)) fun a10 => bnd (at? (S.map (·.2)) a9.2) fun a11 => bnd (more p.1 a10 a11) fun a12 => a8 (a12, iadd .i64 a9.2 1))) (a8 (false, iadd .i64 a9.2 1))) (cnd a9.1 (bnd (at? (S.map (·.1)) (j : Int)) fun a10 => bnd (own p.1 a10.2) fun a11 => some (a11, 0)) (z p))) (true, 0)) (upA (if bestL j S[j].2 0 (S.map (·.2)) = true then (S[j].1.2, 0) else pickA (S.map (·.2)) S[0].1.2 (a && eqV0 S[0].1.2 S[j].1.2) (j + 1) (S.drop (j + 1)))) := fun z nx => by
    have hy : Ult (lp l) (fun p => bnd (at? (S.map (·.1)) (j : Int)) fun a10 => bnd (own p.1 a10.2) fun a11 => some (a11, (0 : Int))) (upv S[j].1.2, (0 : Int)) := Ult.bindc (atF hlt) (Ult.bind (hown _ (List.getElem_mem hlt)).lift Ult.ret)
    have hi := best_prog (l := lp l) (kk := fun p => kk p.1) (lp_le l kk hk) (S.map (·.2)) (len (S.map (·.1))) (by unfold len; simp) j hjW (fun p a b => more p.1 a b) (fun x hx y hy => (hmore x hx y hy).lift) (by rw [hlW]; omega) hy nx
    refine hi.eq ?_
    rw [hWj]
    cases bestL j S[j].2 0 (S.map (·.2)) <;> rfl
  cases a with
  | false => exact Ult.no rfl (inner _ ((next false hlt trivial).eq rfl))
  | true =>
    refine Ult.yes rfl (Ult.bindc h0 (Ult.bindc (atF hlt) (Ult.bind (heq _ (List.getElem_mem hS) _ (List.getElem_mem hlt)).lift ?_)))
    exact inner _ ((next _ hlt trivial).eq rfl)
theorem second_ref {kk : ι → Nat} (hk : ∀ i, l i ≤ kk i) (S : List (Case × Condition)) (hS : 0 < S.length) (h50 : S.length ≤ 50) (eqf : ι → V0 → V0 → Option Bool) (more : ι → Condition → Condition → Option Bool)
    (heq : ∀ s ∈ S, ∀ t ∈ S, Ult l (fun q => eqf q s.1.2 t.1.2) (eqV0 s.1.2 t.1.2)) (hmore : ∀ a ∈ S.map (·.2), ∀ b ∈ S.map (·.2), Ult l (fun q => more q a b) (isM a b)) (jk : V0) :
    Ult l (fun q => loopN (kk q) (fun (a5 : Bool × Int × V0 → Option (V0 × Int)) (a6 : Bool × Int × V0) => cnd (ilt a6.2.1 (len (S.map (·.1)))) (bnd (at? (S.map (·.1)) a6.2.1) fun a7 => jn (fun (a8 : Bool → Option (V0 × Int)) => cnd a6.1 (bnd (at? (S.map (·.1)) 0) fun a9 => bnd (eqf q a7.2 a9.2) fun a10 => a8 a10) (a8 false)) (fun (a8 : Bool) =>
      loopN (kk q) (fun (a9 : Bool × Int → Option (V0 × Int)) (a10 : Bool × Int) => cnd (ilt a10.2 (len (S.map (·.2)))) (bnd (at? (S.map (·.2)) a10.2) fun a11 => cnd a10.1 (cnd (ieq a6.2.1 a10.2) (a9 (true, iadd .i64 a10.2 1)) (bnd (at? (S.map (·.2)) a6.2.1) fun a12 => bnd (more q a12 a11) fun a13 => a9 (a13, iadd .i64 a10.2 1))) (a9 (false, iadd .i64 a10.2 1))) (cnd a10.1 (some (a7.2, 0)) (a5 (a8, iadd .i64 a6.2.1 1, a6.2.2)))) (true, 0)))
      (cnd a6.1 (bnd (at? (S.map (·.1)) 0) fun a7 => some (a7.2, 0)) (some (zV0, 12)))) (true, 0, jk)) (pickA (S.map (·.2)) S[0].1.2 true 0 S) := by
  have hlW : (S.map (·.2)).length = S.length := by simp
  have h0 : at? (S.map (·.1)) 0 = some S[0].1 := atF (j := 0) hS
  refine (Ult.forA (A := Bool) hk S.length (fun a j => (a, (j : Int), jk)) (fun _ _ => True) (fun a j => pickA (S.map (·.2)) S[0].1.2 a j (S.drop j)) true trivial fun a j hj _ next => ?_).eq (by rw [List.drop_zero])
  dsimp only
  have hlT : len (S.map (·.1)) = len S := by unfold len; rw [List.length_map]
  by_cases hlt' : ¬ j < S.length
  · refine Ult.no (by rw [hlT, iltL]; exact decide_eq_false hlt') ?_
    rw [List.drop_eq_nil_of_le (by omega), pickA]
    cases a with
    | true => exact Ult.yes rfl (Ult.bindc h0 Ult.ret)
    | false => exact Ult.no rfl Ult.ret
  have hlt : j < S.length := Decidable.not_not.1 hlt'
  refine Ult.yes (by rw [hlT, iltL]; exact decide_eq_true hlt) (Ult.bindc (atF hlt) (Ult.jn ?_))
  have hjW : j < (S.map (·.2)).length := by rw [hlW]; exact hlt
  have hWj : (S.map (·.2))[j] = S[j].2 := by simp
  rw [drop_cons hlt, pickA, isucc hlt (by omega)]
  have inner : ∀ z : ι × Nat → Option (V0 × Int), Ult (lp l) z (pickA (S.map (·.2)) S[0].1.2 (a && eqV0 S[0].1.2 S[j].1.2) (j + 1) (S.drop (j + 1))) → Ult (lp l) (fun p => loopN (kk p.1) (fun (a9 : Bool × Int → Option (V0 × Int)) (a10 : Bool × Int) => cnd (ilt a10.2 (len (S.map (·.2)))) (bnd (at? (S.map (·.2)) a10.2) fun a11 => cnd a10.1 (cnd (ieq (j : Int) a10.2) (a9 (true, iadd .i64 a10.2 1)) (bnd (at? (S.map (·.2)) (j : Int)) fun a12 => bnd (more p.1 a12 a11) fun a13 => a9 (a13, iadd .i64 a10.2 1))) (a9 (false, iadd .i64 a10.2 1))) (cnd a10.1 (some (S[j].1.2, 0)) (z p))) (true, 0)) (if bestL j S[j].2 0 (S.map (·.2)) = true then (S[j].1.2, 0) else pickA (S.map (·.2)) S[0].1.2 (a && eqV0 S[0].1.2 S[j].1.2) (j + 1) (S.drop (j + 1))) := fun z nx => by
    have hi := best_ref (l := lp l) (kk := fun p => kk p.1) (lp_le l kk hk) (S.map (·.2)) j hjW (fun p a b => more p.1 a b) (fun x hx y hy => (hmore x hx y hy).lift) (by rw [hlW]; omega) (r1 := (S[j].1.2, (0 : Int))) (y := fun p => some (S[j].1.2, (0 : Int))) Ult.ret nx
    rw [hWj] at hi
    exact hi
  cases a with
  | false => exact Ult.no rfl (inner _ ((next false hlt trivial).eq rfl))
  | true =>
    have he := heq _ (List.getElem_mem hlt) _ (List.getElem_mem hS)
    rw [eqV0_comm] at he
    refine Ult.yes rfl (Ult.bindc h0 (Ult.bind he.lift ?_))
    exact inner _ ((next _ hlt trivial).eq rfl)
end Go.Proofs.YtonfimidgbppeaaGreatDoor.Ev

namespace Go.Proofs.YtonfimidgbppeaaGreatDoor.Ev
open Go Go.RowKit
set_option linter.unusedVariables false
set_option linter.unusedSimpArgs false
variable {ι R α X : Type} {l : ι → Nat}
/-! ### names of cases are told apart -/
theorem chkCs_apart {k0 : Int} : ∀ {r pre : List Case}, chkCs k0 pre r = 0 → (∀ c ∈ r, ∀ d ∈ pre, d.1 ≠ c.1) ∧ r.Pairwise fun a b => a.1 ≠ b.1
  | [], _, _ => ⟨fun c hc => (by cases hc), List.Pairwise.nil⟩
  | a :: r, pre, h => by
    rw [chkCs] at h
    split at h
    · rename_i q; exact absurd h q
    split at h
    · cases h
    rename_i q7
    split at h
    · cases h
    split at h
    · rename_i q; exact absurd h q
    split at h
    · cases h
    obtain ⟨h1, h2⟩ := chkCs_apart h
    refine ⟨fun c hc d hd => ?_, List.Pairwise.cons (fun c hc => h1 c hc a (by simp)) h2⟩
    rcases List.mem_cons.1 hc with rfl | hc
    · intro e
      exact q7 (List.any_eq_true.2 ⟨d, hd, decide_eq_true e⟩)
    · exact h1 c hc d (by simp [hd])
theorem chkCases_apart {L : List Case} (h : chkCases L = 0) : L.Pairwise fun a b => a.1 ≠ b.1 := by
  cases L with
  | nil => cases h
  | cons a r => exact (chkCs_apart h).2
theorem find_rev {n : ByteArray} : ∀ {L : List Case}, L.Pairwise (fun a b => a.1 ≠ b.1) → L.reverse.find? (fun c => decide (c.1 = n)) = L.find? fun c => decide (c.1 = n)
  | [], _ => rfl
  | a :: L, h => by
    obtain ⟨h1, h2⟩ := List.pairwise_cons.1 h
    rw [List.reverse_cons, List.find?_append, find_rev h2]
    by_cases e : a.1 = n
    · have : L.find? (fun c => decide (c.1 = n)) = none := List.find?_eq_none.2 fun c hc q => h1 c hc (by rw [e]; exact (of_decide_eq_true q).symm)
      rw [this, List.find?_cons, decide_eq_true e]; simp [e]
    · rw [List.find?_cons, decide_eq_false e]; simp [e]
def lastN (M : List Condition) (L : List Case) : Option Case := L.reverse.find? fun c => (condOf M c.1).isNone
theorem last_dflt {L : List Setting} {M : List Condition} {C : List Case} (hM : CondsOk L M) (hn : chkNames M C = 0) (hp : C.Pairwise fun a b => a.1 ≠ b.1) : lastN M C = C.find? fun c => decide (c.1 = dflt) := by
  rw [← find_rev hp]
  unfold lastN
  have hall : ∀ c ∈ C, okName M c = true := by
    unfold chkNames at hn
    split at hn
    · rename_i q; exact List.all_eq_true.1 q
    · cases hn
  have he : ∀ c ∈ C, (condOf M c.1).isNone = decide (c.1 = dflt) := fun c hc => by
    have h1 := hall c hc
    unfold okName at h1
    cases hco : condOf M c.1 with
    | none => rw [hco] at h1; simpa using h1.symm
    | some m =>
      obtain ⟨q1, q2⟩ := condOf_mem hco
      have := (hM.each m q1).1
      rw [q2] at this
      simp [this]
  have gen : ∀ D : List Case, (∀ c ∈ D, c ∈ C) → D.find? (fun c => (condOf M c.1).isNone) = D.find? fun c => decide (c.1 = dflt) := by
    intro D
    induction D with
    | nil => intro _; rfl
    | cons a D ih =>
      intro hD
      rw [List.find?_cons, List.find?_cons, he a (hD a (by simp)), ih fun c hc => hD c (by simp [hc])]
  exact gen _ fun c hc => List.mem_reverse.1 hc
/-! ### the answer -/
def firstA (x : CWorld) (C : List Pair) (p : Platform) (L : List Case) : V0 × Int := match held x C p L with
  | [] => match L.find? fun c => decide (c.1 = dflt) with
    | none => (zV0, 9)
    | some c => (c.2, 0)
  | s :: r => pickA ((s :: r).map (·.2)) s.1.2 true 0 (s :: r)
def v0of (v : V1) : V0 := (v.1, v.2.1, v.2.2.1, v.2.2.2.1, 0)
def chosenA (x : CWorld) (v : V1) (C : List Pair) (p : Platform) : V0 × Int := if v.1 ≠ 4 then (v0of v, 0) else if chkNames x.2.1 v.2.2.2.2 ≠ 0 then (zV0, chkNames x.2.1 v.2.2.2.2) else firstA x C p v.2.2.2.2
theorem held_step (x : CWorld) (C : List Pair) (p : Platform) {L : List Case} {j : Nat} (h : j < L.length) : held x C p (L.take (j + 1)) = held x C p (L.take j) ++ (match holdC x C p L[j] with
    | some m => [(L[j], m)]
    | none => []) := by
  unfold held
  rw [List.take_succ_eq_append_getElem h, List.filterMap_append]
  congr 1
  cases hc : holdC x C p L[j] <;> simp [hc]
theorem held_mem {x : CWorld} {C : List Pair} {p : Platform} {L : List Case} {s : Case × Condition} (h : s ∈ held x C p L) : s.1 ∈ L ∧ s.2 ∈ x.2.1 := by
  unfold held at h
  obtain ⟨c, hc, e⟩ := List.mem_filterMap.1 h
  unfold holdC at e
  cases hco : condOf x.2.1 c.1 with
  | none => rw [hco] at e; cases e
  | some m =>
    rw [hco] at e
    dsimp only at e
    split at e
    · cases e
      exact ⟨hc, (condOf_mem hco).1⟩
    · cases e
theorem held_len (x : CWorld) (C : List Pair) (p : Platform) (L : List Case) : (held x C p L).length ≤ L.length := List.length_filterMap_le _ _
structure ChIn (x : CWorld) (v : V1) (C : List Pair) (p : Platform) : Prop where
  wx : WorldSz x
  wv : V1Sz v
  wc : PairSz C
  wp : PairSz p.2
  conds : CondsOk x.1 x.2.1
  val : chk1 v = 0
theorem chosen_prog (x : CWorld) (v : V1) (C : List Pair) (p : Platform) (h : ChIn x v C p) : Ultk (fun k => S41 k (x, v, C, p, ())) (upA (chosenA x v C p)) := by
  obtain ⟨z1, z2, z3⟩ := chk1_zero h.val
  have hM : x.2.1.length ≤ 9223372036854775807 := by have := len_big h.wx.2.1.1 (by omega); omega
  have hC := h.wc.len
  have hLs : x.1.length ≤ 9223372036854775807 := by have := len_big h.wx.1.1 (by omega); omega
  unfold S41 chosenA
  by_cases hk : v.1 = 4
  case neg =>
    refine Ult.yes (by rw [ine_eq]; exact decide_eq_true hk) ?_
    rw [if_pos hk]
    have h0 : (lenN v.2.2.2.2 : Nat) = 0 := by rw [z1 hk]; rfl
    refine Ult.bind (own_spec (v.1, v.2.1, v.2.2.1, v.2.2.2.1, lenN v.2.2.2.2) h.wv.2.1 h0) (Ult.ret.eq ?_)
    rfl
  refine Ult.no (by rw [ine_eq]; exact decide_eq_false (fun q => q hk)) ?_
  rw [if_neg (fun q => q hk)]
  have hcs := z2 hk
  obtain ⟨y1, y2⟩ := chkCases_zero hcs
  refine Ult.bind (names_prog x.2.1 v hM (by omega)) ?_
  by_cases hn : chkNames x.2.1 v.2.2.2.2 = 0
  case neg =>
    refine Ult.yes (by rw [ine_eq]; exact decide_eq_true hn) ?_
    rw [if_pos hn]; exact Ult.ret
  refine Ult.no (by rw [ine_eq]; exact decide_eq_false (fun q => q hn)) ?_
  rw [if_neg (fun q => q hn)]
  obtain ⟨kd, tx, nm, ls, L⟩ := v
  have z3 : L.length ≤ 50 := z3
  have y2 : ∀ c ∈ L, c.2.1 ≠ 4 ∧ c.2.2.2.2.2 = 0 := y2
  have hsz : CasesSz L := h.wv.2.2
  refine Ult.forA (A := List Case × List Condition) (fun _ => Nat.le_refl _) L.length (fun a j => (a.1, a.2, (j : Int))) (fun a j => a = ((held x C p (L.take j)).map (·.1), (held x C p (L.take j)).map (·.2))) (fun _ _ => upA (firstA x C p L)) ([], []) (by rw [List.take_zero]; rfl) fun a j hj ha next => ?_
  dsimp only
  rw [iltL]
  by_cases hlt' : ¬ j < L.length
  · refine Ult.no (decide_eq_false hlt') ?_
    rw [List.take_of_length_le (by omega)] at ha
    subst ha
    unfold firstA
    have hS : ∀ s ∈ held x C p L, StrsSz s.1.2.2.2.2.1 ∧ s.1.2.2.2.2.2 = 0 := fun s hs => by
      obtain ⟨q1, _⟩ := held_mem hs
      exact ⟨(hsz.2 _ q1).2.2, (y2 _ q1).2⟩
    have hSw : ∀ s ∈ held x C p L, PairSz s.2.2.1 ∧ PairSz s.2.2.2 := fun s hs => by
      obtain ⟨_, q2⟩ := held_mem hs
      exact (h.wx.2.1.2 _ q2).2
    have hSl := held_len x C p L
    cases hh : held x C p L with
    | nil =>
      refine Ult.yes rfl (Ult.bind (cases_idx (l := lp fun k : Nat => k) (kk := fun q => q.1) (lp_le _ _ fun _ => Nat.le_refl _) L (fun q a => S79 q.1 (a, ())) (fun c => decide (c.1 = dflt)) (fun a _ => Ult.ret.eq (seq_eq _ _)) (by omega)) ?_)
      cases hf : L.find? (fun c : Case => decide (c.1 = dflt)) with
      | none => exact Ult.yes (by rw [ilt_eq]; exact decide_eq_true (idxF_neg.2 hf)) Ult.ret
      | some c =>
        obtain ⟨q1, q2⟩ := idxF_at hf
        have hc := List.mem_of_find?_eq_some hf
        refine Ult.no (by rw [ilt_eq]; exact decide_eq_false (by omega)) (Ult.bindc q1 ?_)
        exact Ult.bind (Ult.call (f := fun k => S1076 k (c.2, ())) (lp_le _ _ fun _ => Nat.le_refl _) (own_spec c.2 (hsz.2 _ hc).2.2 (y2 _ hc).2)) Ult.ret
    | cons s r =>
      rw [← hh]
      have hpos : 0 < (held x C p L).length := by rw [hh]; simp
      refine Ult.no (by rw [ieq_eq]; show decide (((((held x C p L).map (·.1)).length : Nat) : Int) = 0) = false; rw [List.length_map]; exact decide_eq_false (by omega)) ?_
      have e0 : (held x C p L)[0].1.2 = s.1.2 := by simp only [hh]; rfl
      have main := second_prog (l := lp fun k : Nat => k) (kk := fun q => q.1) (lp_le _ _ fun _ => Nat.le_refl _) (held x C p L) hpos (by omega) (fun q a b => S1080 q.1 (a, b, ())) (fun q a => S1076 q.1 (a, ())) (fun q a b => S81 q.1 (a, b, ()))
        (fun s hs t ht => Ult.call (f := fun k => S1080 k (s.1.2, t.1.2, ())) (lp_le _ _ fun _ => Nat.le_refl _) (eq_prog s.1.2 t.1.2 (by have := (hS s hs).1.1; omega) (hS s hs).2))
        (fun s hs => Ult.call (f := fun k => S1076 k (s.1.2, ())) (lp_le _ _ fun _ => Nat.le_refl _) (own_spec s.1.2 (hS s hs).1 (hS s hs).2))
        (fun a ha b hb => by
          obtain ⟨s, hs, rfl⟩ := List.mem_map.1 ha
          obtain ⟨t, ht, rfl⟩ := List.mem_map.1 hb
          exact Ult.call (f := fun k => S81 k (s.2, t.2, ())) (lp_le _ _ fun _ => Nat.le_refl _) (isM_prog s.2 t.2 (hSw s hs).1 (hSw s hs).2 (hSw t ht).1 (hSw t ht).2)) zV1
      rw [e0] at main
      exact main.eq (by rw [hh])
  have hlt : j < L.length := Decidable.not_not.1 hlt'
  refine Ult.yes (decide_eq_true hlt) (Ult.bindc (at?_nat hlt) (Ult.bind (Ult.call (f := fun k => S56 k (x.2.1, L[j].1, ())) (lp_le _ _ fun _ => Nat.le_refl _) (condOf_prog x.2.1 L[j].1 hM)) ?_))
  rw [isucc hlt (by omega)]
  subst ha
  have hl := held_len x C p (L.take j)
  rw [takeL hlt] at hl
  have stay : holdC x C p L[j] = none → ((held x C p (L.take j)).map (·.1), (held x C p (L.take j)).map (·.2)) = ((held x C p (L.take (j + 1))).map (·.1), (held x C p (L.take (j + 1))).map (·.2)) := fun q => by
    rw [held_step x C p hlt, q]; simp
  unfold condAns
  cases hco : condOf x.2.1 L[j].1 with
  | none => exact Ult.no rfl (next _ hlt (stay (by unfold holdC; rw [hco])))
  | some m =>
    obtain ⟨m1, m2⟩ := condOf_mem hco
    obtain ⟨_, p1, p2⟩ := h.wx.2.1.2 _ m1
    refine Ult.yes rfl (Ult.bind (Ult.call (f := fun k => S77 k (x.1, m, C, p, ())) (lp_le _ _ fun _ => Nat.le_refl _) (S77_spec x.1 m C p hLs (by omega) p1 p2 h.wp (h.conds.vals m1))) ?_)
    cases hb : holdsB x.1 m C p with
    | false => exact Ult.no rfl (next _ hlt (stay (by unfold holdC; rw [hco]; simp [hb])))
    | true =>
      refine Ult.yes rfl (Ult.bindc (app?_ok (by simp only [List.length_map, List.length_cons, List.length_nil]; show ((held x C p (L.take j)).length + (0 + 1)) * 96 ≤ _; omega)) (Ult.bindc (app?_ok (by simp only [List.length_map, List.length_cons, List.length_nil]; show ((held x C p (L.take j)).length + (0 + 1)) * 64 ≤ _; omega)) ?_))
      refine next (_, _) hlt ?_
      have : holdC x C p L[j] = some m := by unfold holdC; rw [hco]; simp [hb]
      rw [held_step x C p hlt, this]; simp
end Go.Proofs.YtonfimidgbppeaaGreatDoor.Ev

namespace Go.Proofs.YtonfimidgbppeaaGreatDoor.Ev
open Go Go.RowKit
set_option linter.unusedVariables false
set_option linter.unusedSimpArgs false
variable {ι R α X : Type} {l : ι → Nat}
def oth (M : List Condition) (L : List Case) : Bool × V0 := match lastN M L with
  | some c => (true, c.2)
  | none => (false, zV0)
theorem oth_step (M : List Condition) {L : List Case} {j : Nat} (h : j < L.length) : oth M (L.take (j + 1)) = if (condOf M L[j].1).isNone = true then (true, L[j].2) else oth M (L.take j) := by
  unfold oth lastN
  rw [List.take_succ_eq_append_getElem h, List.reverse_append, List.reverse_singleton, List.singleton_append, List.find?_cons]
  cases (condOf M L[j].1).isNone <;> rfl
theorem chosen_ref0 (x : CWorld) (v : V1) (C : List Pair) (p : Platform) (h : ChIn x v C p) : Ultk (fun k => R33 k (x, v, C, p, ())) (chosenA x v C p) := by
  obtain ⟨z1, z2, z3⟩ := chk1_zero h.val
  have hM : x.2.1.length ≤ 9223372036854775807 := by have := len_big h.wx.2.1.1 (by omega); omega
  have hC := h.wc.len
  have hLs : x.1.length ≤ 9223372036854775807 := by have := len_big h.wx.1.1 (by omega); omega
  unfold R33 chosenA
  refine Ult.bind (names_ref x v hM (by omega)) ?_
  by_cases hk : v.1 = 4
  case neg =>
    have e : chkNames x.2.1 v.2.2.2.2 = 0 := by rw [z1 hk]; rfl
    refine Ult.no (by rw [ine_eq, e]; rfl) (Ult.yes (by rw [ine_eq]; exact decide_eq_true hk) (Ult.ret.eq ?_))
    rw [if_pos hk]
    unfold v0of
    rw [z1 hk]; rfl
  rw [if_neg (fun q => q hk)]
  have hcs := z2 hk
  obtain ⟨y1, y2⟩ := chkCases_zero hcs
  by_cases hn : chkNames x.2.1 v.2.2.2.2 = 0
  case neg =>
    refine Ult.yes (by rw [ine_eq]; exact decide_eq_true hn) ?_
    rw [if_pos hn]; exact Ult.ret
  refine Ult.no (by rw [ine_eq]; exact decide_eq_false (fun q => q hn)) (Ult.no (by rw [ine_eq]; exact decide_eq_false (fun q => q hk)) ?_)
  rw [if_neg (fun q => q hn)]
  have hlast := last_dflt h.conds hn (chkCases_apart hcs)
  obtain ⟨kd, tx, nm, ls, L⟩ := v
  have z3 : L.length ≤ 50 := z3
  have y2 : ∀ c ∈ L, c.2.1 ≠ 4 ∧ c.2.2.2.2.2 = 0 := y2
  have hsz : CasesSz L := h.wv.2.2
  have hlast : lastN x.2.1 L = L.find? fun c => decide (c.1 = dflt) := hlast
  refine Ult.forA (A := List Case × List Condition × Bool × V0) (fun _ => Nat.le_refl _) L.length (fun a j => (a.1, a.2.1, a.2.2.1, (j : Int), a.2.2.2)) (fun a j => a = ((held x C p (L.take j)).map (·.1), (held x C p (L.take j)).map (·.2), oth x.2.1 (L.take j))) (fun _ _ => firstA x C p L) ([], [], false, zV0) (by rw [List.take_zero]; rfl) fun a j hj ha next => ?_
  dsimp only
  rw [iltL]
  by_cases hlt' : ¬ j < L.length
  · refine Ult.no (decide_eq_false hlt') ?_
    rw [List.take_of_length_le (by omega)] at ha
    subst ha
    unfold firstA
    have hS : ∀ s ∈ held x C p L, StrsSz s.1.2.2.2.2.1 ∧ s.1.2.2.2.2.2 = 0 := fun s hs => by
      obtain ⟨q1, _⟩ := held_mem hs
      exact ⟨(hsz.2 _ q1).2.2, (y2 _ q1).2⟩
    have hSw : ∀ s ∈ held x C p L, PairSz s.2.2.1 ∧ PairSz s.2.2.2 := fun s hs => by
      obtain ⟨_, q2⟩ := held_mem hs
      exact (h.wx.2.1.2 _ q2).2
    have hSl := held_len x C p L
    cases hh : held x C p L with
    | nil =>
      refine Ult.yes rfl ?_
      unfold oth
      rw [hlast]
      cases hf : L.find? (fun c : Case => decide (c.1 = dflt)) with
      | none => exact Ult.yes rfl Ult.ret
      | some c => exact Ult.no rfl Ult.ret
    | cons s r =>
      rw [← hh]
      have hpos : 0 < (held x C p L).length := by rw [hh]; simp
      refine Ult.no (by rw [ieq_eq]; show decide (((((held x C p L).map (·.1)).length : Nat) : Int) = 0) = false; rw [List.length_map]; exact decide_eq_false (by omega)) ?_
      have e0 : (held x C p L)[0].1.2 = s.1.2 := by simp only [hh]; rfl
      have main := second_ref (l := lp fun k : Nat => k) (kk := fun q => q.1) (lp_le _ _ fun _ => Nat.le_refl _) (held x C p L) hpos (by omega) (fun q a b => S1013 q.1 (a, b, ())) (fun q a b => S68 q.1 (a, b, ()))
        (fun s hs t ht => Ult.call (f := fun k => S1013 k (s.1.2, t.1.2, ())) (lp_le _ _ fun _ => Nat.le_refl _) (eq_ref s.1.2 t.1.2 (by have := (hS s hs).1.1; omega) (hS s hs).2))
        (fun a ha b hb => by
          obtain ⟨s, hs, rfl⟩ := List.mem_map.1 ha
          obtain ⟨t, ht, rfl⟩ := List.mem_map.1 hb
          exact Ult.call (f := fun k => S68 k (s.2, t.2, ())) (lp_le _ _ fun _ => Nat.le_refl _) (isM_ref s.2 t.2 (hSw s hs).1 (hSw s hs).2 (hSw t ht).1 (hSw t ht).2)) zV0
      rw [e0] at main
      exact main.eq (by rw [hh])
  have hlt : j < L.length := Decidable.not_not.1 hlt'
  refine Ult.yes (decide_eq_true hlt) (Ult.bindc (at?_nat hlt) (Ult.bind (Ult.call (f := fun k => S48 k (x.2.1, L[j].1, ())) (lp_le _ _ fun _ => Nat.le_refl _) (condOf_ref x.2.1 L[j].1 hM)) ?_))
  rw [isucc hlt (by omega)]
  subst ha
  have hl := held_len x C p (L.take j)
  rw [takeL hlt] at hl
  have ho := oth_step x.2.1 hlt
  have hst := held_step x C p hlt
  unfold condAns
  cases hco : condOf x.2.1 L[j].1 with
  | none =>
    have hc : holdC x C p L[j] = none := by unfold holdC; rw [hco]
    rw [hco] at ho
    rw [hc] at hst
    refine Ult.yes rfl (next (_, _, true, L[j].2) hlt ?_)
    rw [hst, ho]; simp
  | some m =>
    obtain ⟨m1, m2⟩ := condOf_mem hco
    obtain ⟨_, p1, p2⟩ := h.wx.2.1.2 _ m1
    rw [hco] at ho
    refine Ult.no rfl (Ult.bind (Ult.call (f := fun k => S67 k (x.1, m, C, p, ())) (lp_le _ _ fun _ => Nat.le_refl _) (S67_spec x.1 m C p hLs (by omega) p1 p2 h.wp (h.conds.vals m1))) ?_)
    cases hb : holdsB x.1 m C p with
    | false =>
      have hc : holdC x C p L[j] = none := by unfold holdC; rw [hco]; simp [hb]
      rw [hc] at hst
      refine Ult.no rfl (next (_, _, _, _) hlt ?_)
      rw [hst, ho]; simp <;> rfl
    | true =>
      have hc : holdC x C p L[j] = some m := by unfold holdC; rw [hco]; simp [hb]
      rw [hc] at hst
      refine Ult.yes rfl (Ult.bindc (app?_ok (by simp only [List.length_map, List.length_cons, List.length_nil]; show ((held x C p (L.take j)).length + (0 + 1)) * 96 ≤ _; omega)) (Ult.bindc (app?_ok (by simp only [List.length_map, List.length_cons, List.length_nil]; show ((held x C p (L.take j)).length + (0 + 1)) * 64 ≤ _; omega)) ?_))
      refine next (_, _, _, _) hlt ?_
      rw [hst, ho]; simp <;> rfl
/-! ### what is chosen has no cases -/
def Flat (a : V0) : Prop := StrsSz a.2.2.2.1 ∧ a.2.2.2.2 = 0
theorem flat_z : Flat zV0 := ⟨⟨by simp, fun s hs => by cases hs⟩, rfl⟩
theorem pick_flat {W : List Condition} {v0 : V0} (h0 : Flat v0) : ∀ (S : List (Case × Condition)) (same : Bool) (j : Nat), (∀ s ∈ S, Flat s.1.2) → Flat (pickA W v0 same j S).1
  | [], same, j, _ => by
    rw [pickA]
    split
    · exact h0
    · exact flat_z
  | s :: r, same, j, hS => by
    rw [pickA]
    split
    · exact hS s (by simp)
    · exact pick_flat h0 r _ _ fun t ht => hS t (by simp [ht])
theorem chosen_flat {x : CWorld} {v : V1} {C : List Pair} {p : Platform} (h : ChIn x v C p) : Flat (chosenA x v C p).1 := by
  obtain ⟨z1, z2, z3⟩ := chk1_zero h.val
  unfold chosenA
  split
  · exact ⟨h.wv.2.1, rfl⟩
  rename_i hk
  have hcs := z2 (Decidable.not_not.1 hk)
  obtain ⟨y1, y2⟩ := chkCases_zero hcs
  split
  · exact flat_z
  have fl : ∀ c ∈ v.2.2.2.2, Flat c.2 := fun c hc => ⟨(h.wv.2.2.2 c hc).2.2, (y2 c hc).2⟩
  unfold firstA
  cases hh : held x C p v.2.2.2.2 with
  | nil =>
    dsimp only
    cases hf : v.2.2.2.2.find? (fun c : Case => decide (c.1 = dflt)) with
    | none => exact flat_z
    | some c => exact fl c (List.mem_of_find?_eq_some hf)
  | cons s r =>
    have hm : ∀ t ∈ s :: r, Flat t.1.2 := fun t ht => fl _ (held_mem (by rw [hh]; exact ht)).1
    exact pick_flat (hm s (by simp)) (s :: r) _ _ hm
theorem chosen_ref (x : CWorld) (v : V1) (C : List Pair) (p : Platform) (h : ChIn x v C p) : Ultk (fun k => S33 k (x, v, C, p, ())) (upA (chosenA x v C p)) := by
  obtain ⟨K, hK⟩ := chosen_ref0 x v C p h
  have hf := (chosen_flat h).2
  refine ⟨K, fun i hi => ?_⟩
  show upF (R33 i (x, v, C, p, ())) = _
  rw [show R33 i (x, v, C, p, ()) = some (chosenA x v C p) from hK i hi]
  show (match upV (chosenA x v C p).1 with | some u => some (u, (chosenA x v C p).2) | none => none) = some (upA (chosenA x v C p))
  have : upV (chosenA x v C p).1 = some (upv (chosenA x v C p).1) := by
    unfold upV
    rw [show ((chosenA x v C p).1.2.2.2.2 : Nat) = 0 from hf]
    rfl
  rw [this]; rfl
end Go.Proofs.YtonfimidgbppeaaGreatDoor.Ev

namespace Go.Proofs.YtonfimidgbppeaaGreatDoor.Ev
open Go Go.RowKit
set_option linter.unusedVariables false
set_option linter.unusedSimpArgs false
variable {ι R α X : Type} {l : ι → Nat}
theorem Ultk.some {f : Nat → Option Bool} (h : Ultk f true) : ∃ k, f k = Option.some true := by
  obtain ⟨K, h⟩ := h
  exact ⟨K, h K (Nat.le_refl _)⟩
theorem PlatSz.one' {p : Platform} (h1 : p.1.size ≤ 140737488351232) (h2 : PairSz p.2) : PlatSz [p] := ⟨by simp, fun q hq => by
  rw [List.mem_singleton.1 hq]; exact ⟨h1, h2⟩⟩
def chkAsk (x : CWorld) (C : List Pair) (p : Platform) : Int := if chkConditions x.1 x.2.1 ≠ 0 then chkConditions x.1 x.2.1 else if chkConfig x.1 C ≠ 0 then chkConfig x.1 C else chkPlatforms [p]
theorem ask_prog (x : CWorld) (C : List Pair) (p : Platform) (hx : WorldSz x) (hC : PairSz C) (hp : PlatSz [p]) : Ultk (fun k => S39 k (x, C, p, ())) (chkAsk x C p) := by
  unfold S39 chkAsk
  have := hC.1
  refine Ult.bind (S54_spec x.1 x.2.1 hx.1 hx.2.1) (Ult.ifS (ine_eq _ _) (fun _ => Ult.ret) fun _ => ?_)
  refine Ult.bind (S28_spec x.1 C hx.1 (by have := hC.len; omega)) (Ult.ifS (ine_eq _ _) (fun _ => Ult.ret) fun _ => ?_)
  exact Ult.bind (S70_spec [p] hp) Ult.ret
def chosenAll (x : CWorld) (v : V1) (C : List Pair) (p : Platform) : V1 × Int := if chkAsk x C p ≠ 0 then (zV1, chkAsk x C p) else if chk1 v ≠ 0 then (zV1, chk1 v) else upA (chosenA x v C p)
theorem ask_zero {x : CWorld} {C : List Pair} {p : Platform} (h : chkAsk x C p = 0) : chkConditions x.1 x.2.1 = 0 := by
  unfold chkAsk at h
  split at h
  · rename_i q; exact absurd h q
  · rename_i q; exact Decidable.not_not.1 q
/-! ### what is chosen is one of the values -/
theorem pick_one {W : List Condition} {v0 : V0} : ∀ (S : List (Case × Condition)) (same : Bool) (j : Nat), (pickA W v0 same j S).2 = 0 → (pickA W v0 same j S).1 = v0 ∨ ∃ s ∈ S, (pickA W v0 same j S).1 = s.1.2
  | [], same, j, h => by
    rw [pickA] at h ⊢
    split at h
    · rename_i q; rw [if_pos q]; exact Or.inl rfl
    · cases h
  | s :: r, same, j, h => by
    rw [pickA] at h ⊢
    split at h
    · rename_i q; rw [if_pos q]; exact Or.inr ⟨s, by simp, rfl⟩
    · rename_i q; rw [if_neg q]
      rcases pick_one r _ _ h with e | ⟨t, ht, e⟩
      · exact Or.inl e
      · exact Or.inr ⟨t, by simp [ht], e⟩
theorem first_one {x : CWorld} {C : List Pair} {p : Platform} {L : List Case} (h : (firstA x C p L).2 = 0) : ∃ c ∈ L, (firstA x C p L).1 = c.2 := by
  unfold firstA at h ⊢
  cases hh : held x C p L with
  | nil =>
    rw [hh] at h
    dsimp only at h ⊢
    cases hf : L.find? (fun c : Case => decide (c.1 = dflt)) with
    | none => rw [hf] at h; cases h
    | some c => exact ⟨c, List.mem_of_find?_eq_some hf, rfl⟩
  | cons s r =>
    rw [hh] at h
    dsimp only at h ⊢
    have hm : ∀ t ∈ s :: r, t.1 ∈ L := fun t ht => (held_mem (by rw [hh]; exact ht)).1
    rcases pick_one _ _ _ h with e | ⟨t, ht, e⟩
    · exact ⟨s.1, hm s (by simp), e⟩
    · exact ⟨t.1, hm t ht, e⟩
theorem chkCs_each {k0 : Int} : ∀ {r pre : List Case}, chkCs k0 pre r = 0 → ∀ c ∈ r, chkTxt c.1 = 0 ∧ c.2.1 ≠ 4 ∧ chk0 c.2 = 0 ∧ c.2.1 = k0
  | [], _, _, c, hc => by cases hc
  | a :: r, pre, h, c, hc => by
    rw [chkCs] at h
    split at h
    · rename_i q; exact absurd h q
    rename_i qt
    split at h
    · cases h
    split at h
    · cases h
    rename_i q4
    split at h
    · rename_i q; exact absurd h q
    rename_i q0
    split at h
    · cases h
    rename_i qk
    rcases List.mem_cons.1 hc with rfl | hc
    · exact ⟨Decidable.not_not.1 qt, q4, Decidable.not_not.1 q0, Decidable.not_not.1 qk⟩
    · exact chkCs_each h c hc
theorem chkCases_each {L : List Case} (h : chkCases L = 0) : ∀ c ∈ L, chkTxt c.1 = 0 ∧ c.2.1 ≠ 4 ∧ chk0 c.2 = 0 := by
  cases L with
  | nil => cases h
  | cons a r => exact fun c hc => have q := chkCs_each h c hc; ⟨q.1, q.2.1, q.2.2.1⟩
theorem chkVal_r {kd : Int} {tx : ByteArray} {nm : Int} {ls : List ByteArray} {n r r' : Int} (hk : kd ≠ 4) : chkVal kd tx nm ls n r = chkVal kd tx nm ls n r' := by
  unfold chkVal
  simp only [if_neg hk]
theorem chk_up {a : V0} (hk : a.1 ≠ 4) (h0 : a.2.2.2.2 = 0) : chk1 (upv a) = chk0 a := by
  obtain ⟨k, t, n, s, z⟩ := a
  obtain rfl : z = 0 := h0
  exact chkVal_r hk
theorem up_v0 {v : V1} (h : v.2.2.2.2 = []) : upv (v0of v) = v := by
  obtain ⟨k, t, n, s, z⟩ := v
  obtain rfl : z = [] := h
  rfl
structure OneOf (v : V1) (a : V0) : Prop where
  kind : a.1 ≠ 4
  flat : Flat a
  chk : chk1 (upv a) = 0
  one : (v.1 ≠ 4 ∧ a = v0of v) ∨ (v.1 = 4 ∧ ∃ c ∈ v.2.2.2.2, a = c.2)
theorem chosen_one {x : CWorld} {v : V1} {C : List Pair} {p : Platform} (h : ChIn x v C p) (h0 : (chosenA x v C p).2 = 0) : OneOf v (chosenA x v C p).1 := by
  have fl := chosen_flat h
  obtain ⟨z1, z2, z3⟩ := chk1_zero h.val
  unfold chosenA at h0 fl ⊢
  by_cases hk : v.1 ≠ 4
  · rw [if_pos hk] at h0 fl ⊢
    refine ⟨hk, fl, ?_, Or.inl ⟨hk, rfl⟩⟩
    dsimp only
    rw [up_v0 (z1 hk)]; exact h.val
  rw [if_neg hk] at h0 fl ⊢
  have hk4 : v.1 = 4 := Decidable.not_not.1 hk
  by_cases hn : chkNames x.2.1 v.2.2.2.2 ≠ 0
  · rw [if_pos hn] at h0; exact absurd h0 hn
  rw [if_neg hn] at h0 fl ⊢
  obtain ⟨c, hc, e⟩ := first_one h0
  obtain ⟨_, y1, y2⟩ := chkCases_each (z2 hk4) c hc
  rw [← e] at y1 y2
  refine ⟨y1, fl, ?_, Or.inr ⟨hk4, c, hc, e⟩⟩
  rw [chk_up y1 fl.2]; exact y2
theorem all_in {x : CWorld} {v : V1} {C : List Pair} {p : Platform} (hx : WorldSz x) (hv : V1Sz v) (hC : PairSz C) (hp2 : PairSz p.2) (h0 : (chosenAll x v C p).2 = 0) : chkAsk x C p = 0 ∧ ChIn x v C p ∧ chosenAll x v C p = upA (chosenA x v C p) ∧ (chosenA x v C p).2 = 0 := by
  unfold chosenAll at h0 ⊢
  split at h0
  · rename_i q; exact absurd h0 q
  rename_i h1
  split at h0
  · rename_i q; exact absurd h0 q
  rename_i h2
  rw [if_neg h1, if_neg h2]
  exact ⟨Decidable.not_not.1 h1, ⟨hx, hv, hC, hp2, CondsOk.of (ask_zero (Decidable.not_not.1 h1)), Decidable.not_not.1 h2⟩, rfl, h0⟩
theorem pick_bad {W : List Condition} {v0 : V0} : ∀ (S : List (Case × Condition)) (same : Bool) (j : Nat), (pickA W v0 same j S).2 ≠ 0 → (pickA W v0 same j S).1 = zV0
  | [], same, j, h => by
    rw [pickA] at h ⊢
    split at h
    · exact absurd rfl h
    · rename_i q; rw [if_neg q]
  | s :: r, same, j, h => by
    rw [pickA] at h ⊢
    split at h
    · exact absurd rfl h
    · rename_i q; rw [if_neg q]; exact pick_bad r _ _ h
theorem first_bad {x : CWorld} {C : List Pair} {p : Platform} {L : List Case} (h0 : (firstA x C p L).2 ≠ 0) : (firstA x C p L).1 = zV0 := by
  unfold firstA at h0 ⊢
  cases hh : held x C p L with
  | nil =>
    rw [hh] at h0
    dsimp only at h0 ⊢
    cases hf : L.find? (fun c : Case => decide (c.1 = dflt)) with
    | none => rfl
    | some c => rw [hf] at h0; exact absurd rfl h0
  | cons s r =>
    rw [hh] at h0
    dsimp only at h0 ⊢
    exact pick_bad _ _ _ h0
theorem chosen_bad {x : CWorld} {v : V1} {C : List Pair} {p : Platform} (h0 : (chosenA x v C p).2 ≠ 0) : (chosenA x v C p).1 = zV0 := by
  unfold chosenA at h0 ⊢
  by_cases hk : v.1 ≠ 4
  · rw [if_pos hk] at h0; exact absurd rfl h0
  rw [if_neg hk] at h0 ⊢
  by_cases hn : chkNames x.2.1 v.2.2.2.2 ≠ 0
  · rw [if_pos hn]
  rw [if_neg hn] at h0 ⊢
  exact first_bad h0
theorem all_bad {x : CWorld} {v : V1} {C : List Pair} {p : Platform} (h0 : (chosenAll x v C p).2 ≠ 0) : (chosenAll x v C p).1 = zV1 := by
  unfold chosenAll at h0 ⊢
  split
  · rfl
  split
  · rfl
  rename_i h1 h2
  rw [if_neg h1, if_neg h2] at h0
  show upv (chosenA x v C p).1 = zV1
  rw [chosen_bad h0]; rfl
/-- chosen again it stays -/
theorem all_again {x : CWorld} {C : List Pair} {p : Platform} {a : V0} (ha : chkAsk x C p = 0) (hk : a.1 ≠ 4) (hf : a.2.2.2.2 = 0) (hc : chk1 (upv a) = 0) : chosenAll x (upv a) C p = (upv a, 0) := by
  unfold chosenAll
  rw [if_neg (fun q => q ha), if_neg (fun q => q hc)]
  unfold chosenA
  rw [if_pos (show (upv a).1 ≠ 4 from hk)]
  obtain ⟨k, t, n, s, z⟩ := a
  rfl
theorem v1sz_up {v : V1} {a : V0} (hv : V1Sz v) (h : OneOf v a) : V1Sz (upv a) := by
  rcases h.one with ⟨_, e⟩ | ⟨_, c, hc, e⟩
  · subst e; exact ⟨hv.1, hv.2.1, by simp [upv], fun c hc => by cases hc⟩
  · subst e
    obtain ⟨q1, q2, q3⟩ := hv.2.2.2 c hc
    exact ⟨q2, q3, by simp [upv], fun c hc => by cases hc⟩
end Go.Proofs.YtonfimidgbppeaaGreatDoor.Ev

namespace Go.Proofs.YtonfimidgbppeaaGreatDoor.Ev
open Go Go.RowKit
set_option linter.unusedVariables false
set_option linter.unusedSimpArgs false
def mkB (l : List UInt8) : ByteArray := ⟨l.toArray⟩
theorem mkB_data (l : List UInt8) : (mkB l).data.toList = l := by simp [mkB]
theorem mkB_of (s : ByteArray) : mkB s.data.toList = s := bytes_ext (mkB_data _)
theorem mkB_size (l : List UInt8) : (mkB l).size = l.length := rfl
theorem size_list (s : ByteArray) : s.size = s.data.toList.length := by simp
/-- cut at each c -/
def splitL (c : UInt8) : List UInt8 → List (List UInt8)
  | [] => [[]]
  | b :: r => if b = c then [] :: splitL c r else match splitL c r with
    | [] => [[b]]
    | p :: ps => (b :: p) :: ps
theorem splitL_ne (c : UInt8) : ∀ l, splitL c l ≠ []
  | [] => by simp [splitL]
  | b :: r => by
    rw [splitL]
    split
    · simp
    · split <;> simp
theorem splitL_none {c : UInt8} : ∀ {l : List UInt8}, c ∉ l → splitL c l = [l]
  | [], _ => rfl
  | b :: r, h => by
    rw [splitL, if_neg (fun e => h (by simp [e])), splitL_none (fun m => h (by simp [m]))]
theorem splitL_cons {c : UInt8} : ∀ {p : List UInt8} (r : List UInt8), c ∉ p → splitL c (p ++ c :: r) = p :: splitL c r
  | [], r, _ => by simp [splitL]
  | b :: p, r, h => by
    rw [List.cons_append, splitL, if_neg (fun e => h (by simp [e])), splitL_cons r (fun m => h (by simp [m]))]
theorem first_of {c : UInt8} : ∀ {l : List UInt8}, c ∈ l → ∃ p r, l = p ++ c :: r ∧ c ∉ p
  | b :: l, h => by
    by_cases e : b = c
    · exact ⟨[], l, by simp [e], by simp⟩
    · have : c ∈ l := by rcases List.mem_cons.1 h with q | q; exact absurd q.symm e; exact q
      obtain ⟨p, r, rfl, h2⟩ := first_of this
      refine ⟨b :: p, r, rfl, fun m => ?_⟩
      rcases List.mem_cons.1 m with q | q
      · exact e q.symm
      · exact h2 q
theorem splitL_parts {c : UInt8} : ∀ (n : Nat) {l : List UInt8}, l.length ≤ n → ∀ p ∈ splitL c l, c ∉ p ∧ p.length ≤ l.length
  | n, l, hn, p, hp => by
    by_cases h : c ∈ l
    · obtain ⟨a, r, rfl, ha⟩ := first_of h
      rw [splitL_cons r ha] at hp
      rcases List.mem_cons.1 hp with rfl | hp
      · exact ⟨ha, by simp⟩
      · cases n with
        | zero => simp at hn
        | succ n =>
          obtain ⟨h1, h2⟩ := splitL_parts n (l := r) (by simp only [List.length_append, List.length_cons] at hn; omega) p hp
          exact ⟨h1, by simp only [List.length_append, List.length_cons]; omega⟩
    · rw [splitL_none h] at hp
      obtain rfl : p = l := by simpa using hp
      exact ⟨h, Nat.le_refl _⟩
theorem splitL_len {c : UInt8} : ∀ (l : List UInt8), (splitL c l).length ≤ l.length + 1
  | [] => by simp [splitL]
  | b :: r => by
    have ih := splitL_len (c := c) r
    rw [splitL]
    split
    · simp only [List.length_cons]; omega
    · split
      · simp
      · rename_i p ps e
        rw [e] at ih
        simp only [List.length_cons] at ih ⊢
        omega
theorem index_none {c : UInt8} : ∀ {l : List UInt8}, c ∉ l → Lib.index l [c] = -1
  | [], _ => rfl
  | b :: r, h => by
    have hb : b ≠ c := fun e => h (by simp [e])
    have := index_none (fun m => h (by simp [m]) : c ∉ r)
    rw [Lib.index, this]
    have hp : ([c] : List UInt8).isPrefixOf (b :: r) = false := by simp [List.isPrefixOf, Ne.symm hb]
    rw [hp]; simp
theorem index_first {c : UInt8} : ∀ {p : List UInt8} (r : List UInt8), c ∉ p → Lib.index (p ++ c :: r) [c] = (p.length : Int)
  | [], r, _ => by
    rw [List.nil_append, Lib.index]
    have hp : ([c] : List UInt8).isPrefixOf (c :: r) = true := by simp [List.isPrefixOf]
    rw [hp]; simp
  | b :: p, r, h => by
    have hb : b ≠ c := fun e => h (by simp [e])
    have ih := index_first (p := p) r (fun m => h (List.mem_cons_of_mem _ m))
    have ih : Lib.index (p ++ c :: r) [c] = (p.length : Int) := ih
    rw [List.cons_append, Lib.index, ih]
    have hp : ([c] : List UInt8).isPrefixOf (b :: (p ++ c :: r)) = false := by simp [List.isPrefixOf, Ne.symm hb]
    rw [hp]
    have : ¬ ((p.length : Int) == -1) = true := by simp <;> omega
    rw [if_neg (by simp), if_neg this]
    simp
theorem count_none {c : UInt8} {l : List UInt8} (h : c ∉ l) : Lib.count l [c] = 0 := by
  rw [Lib.count_one]; exact List.count_eq_zero.2 h
theorem count_first {c : UInt8} {p : List UInt8} (r : List UInt8) (h : c ∉ p) : Lib.count (p ++ c :: r) [c] = Lib.count r [c] + 1 := by
  rw [Lib.count_one, Lib.count_one, List.count_append, List.count_cons_self, List.count_eq_zero.2 h]; omega
theorem splitK_one {c : UInt8} : ∀ (n : Nat) {l : List UInt8}, l.length ≤ n → Lib.splitK [c] 0 (Lib.count l [c]) l = splitL c l
  | n, l, hn => by
    by_cases h : c ∈ l
    · obtain ⟨a, r, rfl, ha⟩ := first_of h
      rw [splitL_cons r ha, count_first r ha, Lib.splitK, index_first r ha]
      have : ¬ ((a.length : Int) == -1) = true := by simp <;> omega
      rw [if_neg this]
      cases n with
      | zero => simp at hn
      | succ n =>
        have ih := splitK_one (c := c) n (l := r) (by simp only [List.length_append, List.length_cons] at hn; omega)
        simp only [Int.toNat_natCast, Nat.add_zero, List.length_cons, List.length_nil, Nat.zero_add]
        rw [List.take_left' rfl, show (a ++ c :: r).drop (a.length + 1) = r by simp [← List.drop_drop], ih]
    · rw [splitL_none h, count_none h]; rfl
/-- strings.Split at one byte -/
theorem split_one (c : UInt8) (s : ByteArray) : Lib.splitB ⟨#[c]⟩ 0 (Lib.countB s ⟨#[c]⟩) s = (splitL c s.data.toList).map mkB := by
  have h := Lib.splitB_data ⟨#[c]⟩ 0 (Lib.countB s ⟨#[c]⟩) s
  have h2 : Lib.splitK [c] 0 (Lib.countB s ⟨#[c]⟩) s.data.toList = splitL c s.data.toList := splitK_one _ (Nat.le_refl _)
  rw [show (⟨#[c]⟩ : ByteArray).data.toList = [c] from rfl, h2] at h
  rw [← h, List.map_map]
  conv => lhs; rw [← List.map_id (Lib.splitB _ _ _ _)]
  exact List.map_congr_left fun x _ => (mkB_of x).symm
theorem cut_none {c : UInt8} {l : List UInt8} (h : c ∉ l) : Lib.cut l [c] = (l, [], false) := by
  unfold Lib.cut
  rw [index_none h, if_neg (by decide)]
theorem cut_first {c : UInt8} {p : List UInt8} (r : List UInt8) (h : c ∉ p) : Lib.cut (p ++ c :: r) [c] = (p, r, true) := by
  unfold Lib.cut
  rw [index_first r h, if_pos (Int.natCast_nonneg _)]
  simp only [Int.toNat_natCast, List.length_cons, List.length_nil, Nat.zero_add]
  rw [List.take_left' rfl, show (p ++ c :: r).drop (p.length + 1) = r by simp [← List.drop_drop]]
theorem joinTail_cons (sep : List UInt8) (y : List UInt8) (r : List (List UInt8)) : Lib.joinTail sep (y :: r) = sep ++ y ++ Lib.joinTail sep r := by simp [Lib.joinTail]
/-- what was joined is split again -/
theorem splitL_join {c : UInt8} : ∀ (r : List (List UInt8)) (x : List UInt8), c ∉ x → (∀ y ∈ r, c ∉ y) → splitL c (Lib.join (x :: r) [c]) = x :: r
  | [], x, hx, _ => by rw [Lib.join_one, splitL_none hx]
  | y :: r, x, hx, hr => by
    have ih := splitL_join r y (hr y (by simp)) fun z hz => hr z (by simp [hz])
    rw [Lib.join_cons] at ih ⊢
    rw [joinTail_cons, List.append_assoc, List.singleton_append, splitL_cons _ hx, ih]
end Go.Proofs.YtonfimidgbppeaaGreatDoor.Ev

namespace Go.Proofs.YtonfimidgbppeaaGreatDoor.Ev.Pth
open Go Go.RowKit
set_option linter.unusedVariables false
set_option linter.unusedSimpArgs false
variable {ι R A X α β : Type} {l : ι → Nat}
abbrev File := ByteArray × (Bool × List Int)
theorem bt_get {s : ByteArray} {j : Nat} (h : j < s.size) : bt s (j : Int) = ((s.data.toList[j]'(by simpa using h)).toNat : Int) := by
  unfold bt
  rw [dif_pos (by simpa using h)]
  simp [ByteArray.getElem_eq_getElem_data]
theorem bt?_get {s : ByteArray} {j : Nat} (h : j < s.size) : bt? s (j : Int) = some (bt s (j : Int)) := by unfold bt?; rw [if_pos ⟨Int.natCast_nonneg _, by omega⟩]
theorem iltS (j : Nat) (s : ByteArray) : ilt (j : Int) (ssz s) = decide (j < s.size) := by
  unfold ilt ssz
  by_cases h : j < s.size
  · rw [decide_eq_true h, decide_eq_true (by omega)]
  · rw [decide_eq_false h, decide_eq_false (by omega)]
theorem ssz_small {s : ByteArray} {n : Int} (h : igt (ssz s) n = false) : (s.size : Int) ≤ n := by
  have : ¬ ssz s > n := of_decide_eq_false h
  unfold ssz at this
  omega

/-! ### words -/
/-- a byte of a part of a path -/
def pb (c : Int) : Bool := decide (97 ≤ c ∧ c ≤ 122) || (decide (65 ≤ c ∧ c ≤ 90) || (decide (48 ≤ c ∧ c ≤ 57) || (decide (c = 46) || (decide (c = 95) || (decide (c = 45) || decide (c = 43))))))
def allP (l : List UInt8) : Bool := l.all fun b => pb (b.toNat : Int)
def dot1 : ByteArray := ⟨#[46]⟩
def dot2 : ByteArray := ⟨#[46, 46]⟩
def isPartD (s : ByteArray) : Bool := allP s.data.toList && decide (s ≠ ⟨#[]⟩ ∧ s ≠ dot1 ∧ s ≠ dot2)
def parts (s : ByteArray) : List ByteArray := (splitL 47 s.data.toList).map mkB
def isPathD (s : ByteArray) : Bool := decide (1 ≤ s.size ∧ s.size ≤ 200) && (parts s).all isPartD
theorem isPathD_size {s : ByteArray} (h : isPathD s = true) : 1 ≤ s.size ∧ s.size ≤ 200 := by
  simp only [isPathD, Bool.and_eq_true, decide_eq_true_eq] at h
  exact h.1
theorem parts_len (s : ByteArray) : (parts s).length ≤ s.size + 1 := by
  have := splitL_len (c := 47) s.data.toList
  rw [← size_list] at this
  simpa [parts] using this
theorem parts_size {s p : ByteArray} (h : p ∈ parts s) : p.size ≤ s.size := by
  obtain ⟨x, hx, rfl⟩ := List.mem_map.1 h
  have := (splitL_parts (c := 47) _ (Nat.le_refl _) x hx).2
  rw [← size_list] at this
  rw [mkB_size]; exact this
theorem parts_noslash {s p : ByteArray} (h : p ∈ parts s) : (47 : UInt8) ∉ p.data.toList := by
  obtain ⟨x, hx, rfl⟩ := List.mem_map.1 h
  rw [mkB_data]
  exact (splitL_parts (c := 47) _ (Nat.le_refl _) x hx).1
theorem idx_pb (b : UInt8) : ige (Lib.indexByte [46, 95, 45, 43] (((b.toNat : Int)).toNat.toUInt8)) 0 = (decide ((b.toNat : Int) = 46) || (decide ((b.toNat : Int) = 95) || (decide ((b.toNat : Int) = 45) || decide ((b.toNat : Int) = 43)))) := by
  have key : ∀ n : _root_.Fin 256, ige (Lib.indexByte [46, 95, 45, 43] (((UInt8.ofNat n.1).toNat : Int)).toNat.toUInt8) 0 = (decide (((UInt8.ofNat n.1).toNat : Int) = 46) || (decide (((UInt8.ofNat n.1).toNat : Int) = 95) || (decide (((UInt8.ofNat n.1).toNat : Int) = 45) || decide (((UInt8.ofNat n.1).toNat : Int) = 43)))) := by decide +kernel
  have := key ⟨b.toNat, b.toNat_lt⟩
  simpa using this

/-! ### maps -/
theorem ba_eq (a b : ByteArray) : (a == b) = true ↔ a = b := by
  obtain ⟨x⟩ := a
  obtain ⟨y⟩ := b
  constructor
  · intro h
    have e : x = y := by simpa using (show (x == y) = true from h)
    rw [e]
  · intro h
    cases h
    show (x == x) = true
    simp
theorem keq_eq (a b : ByteArray) : keq a b = decide (a = b) := by
  unfold keq
  rw [Bool.eq_iff_iff, ba_eq, decide_eq_true_iff]
def mputR (m : List (ByteArray × β)) (k : ByteArray) (v : β) : List (ByteArray × β) := match m with
  | [] => [(k, v)]
  | p :: m => if k = p.1 then (p.1, v) :: m else p :: mputR m k v
theorem mput_R : ∀ (m : List (ByteArray × β)) (k : ByteArray) (v : β), mput keq m k v = mputR m k v
  | [], k, v => rfl
  | p :: m, k, v => by
    have ih := mput_R m k v
    unfold mput at ih ⊢
    rw [List.findIdx?_cons, mputR]
    by_cases h : k = p.1
    · rw [if_pos (by rw [keq_eq]; exact decide_eq_true h), if_pos h]; rfl
    · rw [if_neg (by rw [keq_eq, decide_eq_false h]; simp), if_neg h, ← ih]
      cases m.findIdx? fun p => keq k p.1 <;> rfl
theorem mget_nil (s : ByteArray) : mget? keq ([] : List (ByteArray × β)) s = none := rfl
theorem mget_cons (p : ByteArray × β) (m : List (ByteArray × β)) (s : ByteArray) : mget? keq (p :: m) s = if s = p.1 then some p.2 else mget? keq m s := by
  unfold mget?
  rw [List.find?_cons]
  by_cases h : s = p.1
  · rw [if_pos h, show keq s p.1 = true by rw [keq_eq]; exact decide_eq_true h]; rfl
  · rw [if_neg h, show keq s p.1 = false by rw [keq_eq]; exact decide_eq_false h]
theorem mget_mput : ∀ (m : List (ByteArray × β)) (k : ByteArray) (v : β) (s : ByteArray), mget? keq (mput keq m k v) s = if s = k then some v else mget? keq m s := by
  intro m k v s
  rw [mput_R]
  induction m with
  | nil => rw [mputR, mget_cons]
  | cons p m ih =>
    rw [mputR]
    by_cases h : k = p.1
    · rw [if_pos h, mget_cons, mget_cons, h]
      by_cases e : s = p.1
      · rw [if_pos e, if_pos e]
      · rw [if_neg e, if_neg e, if_neg e]
    · rw [if_neg h, mget_cons, mget_cons, ih]
      by_cases e : s = p.1
      · rw [if_pos e, if_pos e, if_neg (fun q => h (q.symm.trans e))]
      · rw [if_neg e, if_neg e]
theorem mput_len (m : List (ByteArray × β)) (k : ByteArray) (v : β) : (mput keq m k v).length ≤ m.length + 1 := by
  rw [mput_R]
  induction m with
  | nil => simp [mputR]
  | cons p m ih =>
    rw [mputR]
    split
    · simp
    · simp only [List.length_cons]; omega

/-! ### files in order -/
def Asc (l : List File) : Prop := l.Pairwise fun p q => lt p.1 q.1
instance (a b : ByteArray) : Decidable (lt a b) := inferInstanceAs (Decidable (a.data.toList < b.data.toList))
theorem lt_irrefl (a : ByteArray) : ¬ lt a a := List.lt_irrefl _
theorem lt_trans {a b c : ByteArray} (h : lt a b) (k : lt b c) : lt a c := List.lt_trans h k
theorem lt_asymm {a b : ByteArray} (h : lt a b) : ¬ lt b a := List.lt_asymm h
theorem lt_tri {a b : ByteArray} (h : ¬ lt a b) (k : ¬ lt b a) : a = b := by
  unfold lt at h k
  rcases List.le_total a.data.toList b.data.toList with q | q
  · rcases List.le_iff_lt_or_eq.1 q with q | q
    · exact absurd q h
    · exact bytes_ext q
  · rcases List.le_iff_lt_or_eq.1 q with q | q
    · exact absurd q k
    · exact bytes_ext q.symm
theorem lt_of_le_lt {a b c : ByteArray} (h : ¬ lt b a) (k : lt b c) : lt a c := by
  rcases Classical.em (lt a b) with q | q
  · exact lt_trans q k
  · rw [lt_tri q h]; exact k
theorem Asc.get {L : List File} (h : Asc L) {i j : Nat} (hij : i < j) (hj : j < L.length) : lt (L[i]'(by omega)).1 L[j].1 := List.pairwise_iff_getElem.1 h i j (by omega) hj hij
/-- a file has the path -/
def inF (l : List File) (p : ByteArray) : Bool := l.any fun x => decide (x.1 = p)
theorem inF_iff {l : List File} {p : ByteArray} : inF l p = true ↔ ∃ x ∈ l, x.1 = p := by unfold inF; simp
/-- a file has a path within which this one lies -/
def clash (inn : ByteArray → Bool) (s : ByteArray) (j : Nat) : Bool := ((List.range s.size).drop j).any fun i => decide (bt s (i : Int) = 47) && inn (s.extract 0 i)
def inside (l : List File) (s : ByteArray) : Bool := clash (inF l) s 0
theorem clash_end {inn : ByteArray → Bool} {s : ByteArray} {j : Nat} (h : s.size ≤ j) : clash inn s j = false := by
  unfold clash; rw [List.drop_eq_nil_of_le (by simpa using h)]; rfl
theorem clash_step {inn : ByteArray → Bool} {s : ByteArray} {j : Nat} (h : j < s.size) : clash inn s j = ((decide (bt s (j : Int) = 47) && inn (s.extract 0 j)) || clash inn s (j + 1)) := by
  unfold clash
  rw [List.drop_eq_getElem_cons (by simpa using h), List.any_cons, List.getElem_range]
theorem clash_congr {f g : ByteArray → Bool} (h : ∀ s, f s = g s) (s : ByteArray) (j : Nat) : clash f s j = clash g s j := by rw [show f = g from funext h]
theorem sub?_take {s : ByteArray} {j : Nat} (h : j ≤ s.size) : sub? s 0 (j : Int) = some (s.extract 0 j) := by
  unfold sub?
  rw [if_pos ⟨by omega, by omega, by omega⟩, Int.toNat_natCast]; rfl

/-! ### CheckFiles -/
def firstNZ (l : List Int) : Int := (l.find? fun x => decide (x ≠ 0)).getD 0
theorem firstNZ_nil : firstNZ [] = 0 := rfl
theorem firstNZ_cons (x : Int) (r : List Int) : firstNZ (x :: r) = if x ≠ 0 then x else firstNZ r := by
  unfold firstNZ
  rw [List.find?_cons]
  by_cases h : x = 0
  · subst h; rfl
  · rw [if_pos h, decide_eq_true h]; rfl
theorem firstNZ_zero : ∀ {l : List Int}, firstNZ l = 0 ↔ ∀ x ∈ l, x = 0
  | [] => by simp [firstNZ_nil]
  | x :: r => by
    rw [firstNZ_cons]
    by_cases h : x = 0
    · rw [if_neg (by simp [h]), firstNZ_zero (l := r)]; simp [h]
    · rw [if_pos h]; simp [h]
def fileErr (l : List File) (j : Nat) : Int :=
  if isPathD (l.getD j default).1 = false then 3 else if 100000 < (l.getD j default).2.2.length then 2 else if 0 < j ∧ ¬ lt (l.getD (j - 1) default).1 (l.getD j default).1 then 8 else 0
theorem rng {c a b : Int} {F : ι → Option Bool} {r : Bool} (h : Ult l F r) : Ult l (fun i => cnd (ige c a) (cnd (ile c b) (some true) (F i)) (F i)) (decide (a ≤ c ∧ c ≤ b) || r) := by
  by_cases h1 : a ≤ c
  · refine Ult.yes (decide_eq_true h1) ?_
    by_cases h2 : c ≤ b
    · exact Ult.yes (decide_eq_true h2) (Ult.ret.eq (by simp [h1, h2]))
    · exact Ult.no (decide_eq_false h2) (h.eq (by simp [h1, h2]))
  · exact Ult.no (decide_eq_false h1) (h.eq (by simp [h1]))
theorem isc {c a : Int} {F : ι → Option Bool} {r : Bool} (h : Ult l F r) : Ult l (fun i => cnd (ieq c a) (some true) (F i)) (decide (c = a) || r) := by
  by_cases h1 : c = a
  · exact Ult.yes (by rw [ieq_eq]; exact decide_eq_true h1) (Ult.ret.eq (by simp [h1]))
  · exact Ult.no (by rw [ieq_eq]; exact decide_eq_false h1) (h.eq (by simp [h1]))
theorem inPart_spec (b : UInt8) : Ultk (fun k => S172 k ((b.toNat : Int), ())) (pb (b.toNat : Int)) := by
  unfold S172 pb
  rw [← idx_pb b]
  exact rng (rng (rng (Ult.bind (a := Lib.indexByte [46, 95, 45, 43] ((b.toNat : Int)).toNat.toUInt8) ⟨0, fun _ _ => rfl⟩ Ult.ret)))

theorem part_loop (f : Nat → Int × Unit → Option Bool) (hf : ∀ b : UInt8, Ultk (fun k => f k ((b.toNat : Int), ())) (pb (b.toNat : Int))) (s : ByteArray) (hs : s.size ≤ 9223372036854775807) :
    Ultk (fun k => loopN k (fun (a2 : (Int → (Option Bool))) (a3 : Int) => cnd (ilt a3 (ssz s)) (bnd (bt? s a3) (fun (a4 : Int) => bnd (f k (a4, ())) (fun (a5 : Bool) => cnd (bnot a5) (some false) (a2 (iadd Go.IntKind.i64 a3 1))))) (cnd (sne s (⟨#[]⟩ : ByteArray)) (cnd (sne s (⟨#[46]⟩ : ByteArray)) (some (sne s (⟨#[46, 46]⟩ : ByteArray))) (some false)) (some false))) 0) (isPartD s) := by
  refine (Ult.forI (fun _ => Nat.le_refl _) s.size (fun j => allP (s.data.toList.drop j) && decide (s ≠ ⟨#[]⟩ ∧ s ≠ dot1 ∧ s ≠ dot2)) fun j hj next => ?_).eq (by rw [List.drop_zero]; rfl)
  rw [iltS]
  by_cases hlt : j < s.size
  · have hl : j < s.data.toList.length := by simpa using hlt
    refine Ult.yes (decide_eq_true hlt) (Ult.bindc (bt?_get hlt) ?_)
    rw [bt_get hlt]
    refine Ult.bind (Ult.call (l := lp fun k : Nat => k) (f := fun k => f k (((s.data.toList[j]).toNat : Int), ())) (lp_le _ _ fun _ => Nat.le_refl _) (hf s.data.toList[j])) ?_
    rw [isucc hlt hs, drop_cons hl]
    unfold allP at next ⊢
    rw [List.all_cons]
    cases hb : pb ((s.data.toList[j]).toNat : Int) with
    | true => exact Ult.no rfl ((next hlt).eq (by simp))
    | false => exact Ult.yes rfl (Ult.ret.eq (by simp))
  · refine Ult.no (decide_eq_false hlt) ?_
    rw [List.drop_eq_nil_of_le (by simp; omega), sne_eq, sne_eq, sne_eq]
    by_cases h1 : s = ⟨#[]⟩
    · exact Ult.no (by simp [h1]) (Ult.ret.eq (by simp [h1]))
    refine Ult.yes (by simp [h1]) ?_
    by_cases h2 : s = dot1
    · exact Ult.no (decide_eq_false (fun q => q h2)) (Ult.ret.eq (by simp [h2]))
    refine Ult.yes (decide_eq_true h2) (Ult.ret.eq ?_)
    simp only [allP, List.all_nil, Bool.true_and, decide_eq_decide]
    exact ⟨fun h => ⟨h1, h2, h⟩, fun h => h.2.2⟩
theorem isPart_spec (s : ByteArray) (hs : s.size ≤ 9223372036854775807) : Ultk (fun k => S146 k (s, ())) (isPartD s) := by
  unfold S146
  exact part_loop S172 inPart_spec s hs

theorem all_loop (f : Nat → ByteArray × Unit → Option Bool) (q : ByteArray → Bool) (A : List ByteArray) (hA : A.length ≤ 9223372036854775807) (hf : ∀ s ∈ A, Ultk (fun k => f k (s, ())) (q s)) :
    Ultk (fun k => loopN k (fun (a4 : (Int → (Option Bool))) (a5 : Int) => cnd (ilt a5 (len A)) (bnd (at? A a5) (fun (a6 : ByteArray) => bnd (f k (a6, ())) (fun (a7 : Bool) => cnd (bnot a7) (some false) (a4 (iadd Go.IntKind.i64 a5 1))))) (some true)) 0) (A.all q) := by
  refine (Ult.forI (fun _ => Nat.le_refl _) A.length (fun j => (A.drop j).all q) fun j hj next => ?_).eq (by rw [List.drop_zero])
  rw [iltL]
  by_cases hlt : j < A.length
  · refine Ult.yes (decide_eq_true hlt) (Ult.bindc (at?_nat hlt) ?_)
    refine Ult.bind (Ult.call (l := lp fun k : Nat => k) (f := fun k => f k (A[j], ())) (lp_le _ _ fun _ => Nat.le_refl _) (hf A[j] (List.getElem_mem hlt))) ?_
    rw [isucc hlt hA, drop_cons hlt, List.all_cons]
    cases hb : q A[j] with
    | true => exact Ult.no rfl ((next hlt).eq (by simp))
    | false => exact Ult.yes rfl (Ult.ret.eq (by simp))
  · refine Ult.no (decide_eq_false hlt) (Ult.ret.eq ?_)
    rw [List.drop_eq_nil_of_le (by omega)]; rfl
def sl : ByteArray := ⟨#[47]⟩
theorem split_spec (s : ByteArray) (h : s.size < 4294967281) : Ultk (fun k => S89 k (s, (⟨#[47]⟩ : ByteArray), ())) (parts s) :=
  ⟨0, fun k _ => by
    unfold S89
    rw [if_pos ⟨h, show 1 ≤ (⟨#[47]⟩ : ByteArray).size by decide⟩]
    exact congrArg some (split_one 47 s)⟩
theorem isPath_spec (s : ByteArray) : Ultk (fun k => S92 k (s, ())) (isPathD s) := by
  unfold S92 isPathD
  refine Ult.jn ?_
  dsimp only
  by_cases h1 : s.size < 1
  · exact Ult.yes (by simp only [ilt_eq, ssz, decide_eq_true_eq]; omega) (Ult.ret.eq (by rw [decide_eq_false (by omega)]; rfl))
  refine Ult.no (by simp only [ilt_eq, ssz, decide_eq_false_iff_not]; omega) ?_
  by_cases h2 : 200 < s.size
  · exact Ult.yes (by simp only [igt_eq, ssz, decide_eq_true_eq]; omega) (Ult.ret.eq (by rw [decide_eq_false (by omega)]; rfl))
  refine Ult.no (by simp only [igt_eq, ssz, decide_eq_false_iff_not]; omega) (Ult.bind (split_spec s (by omega)) ?_)
  refine (all_loop S146 isPartD (parts s) (by have := parts_len s; omega) fun p hp => isPart_spec p (by have := parts_size hp; omega)).eq ?_
  rw [decide_eq_true (by omega), Bool.true_and]
def AscS (L : List ByteArray) : Prop := L.Pairwise lt
theorem AscS.nodup {L : List ByteArray} (h : AscS L) : L.Nodup := by
  have h : L.Pairwise lt := h
  refine h.imp fun {a b} hab e => ?_
  rw [e] at hab
  exact lt_irrefl _ hab
theorem AscS.unique {A B : List ByteArray} (hA : AscS A) (hB : AscS B) (h : ∀ y, y ∈ A ↔ y ∈ B) : A = B := by
  have hp : A.Perm B := (List.perm_ext_iff_of_nodup hA.nodup hB.nodup).2 h
  have hA : A.Pairwise lt := hA
  have hB : B.Pairwise lt := hB
  exact List.Perm.eq_of_pairwise (le := lt) (fun a b _ _ h1 h2 => absurd h2 (lt_asymm h1)) hA hB hp
theorem AscS.get {L : List ByteArray} (h : AscS L) {i j : Nat} (hij : i < j) (hj : j < L.length) : lt (L[i]'(by omega)) L[j] := List.pairwise_iff_getElem.1 h i j (by omega) hj hij
def keysM (m : List (ByteArray × β)) : List ByteArray := m.map (·.1)
theorem keys_mput (m : List (ByteArray × β)) (k : ByteArray) (v : β) : (k ∈ keysM m ∧ keysM (mput keq m k v) = keysM m) ∨ (¬ k ∈ keysM m ∧ keysM (mput keq m k v) = keysM m ++ [k]) := by
  rw [mput_R]
  induction m with
  | nil => exact .inr ⟨by simp [keysM], rfl⟩
  | cons p m ih =>
    rw [mputR]
    by_cases h : k = p.1
    · rw [if_pos h]; exact .inl ⟨by simp [keysM, h], rfl⟩
    · rw [if_neg h]
      have e : keysM (p :: mputR m k v) = p.1 :: keysM (mputR m k v) := rfl
      have e2 : keysM (p :: m) = p.1 :: keysM m := rfl
      rw [e, e2]
      rcases ih with ⟨i1, i2⟩ | ⟨i1, i2⟩
      · exact .inl ⟨List.mem_cons_of_mem _ i1, by rw [i2]⟩
      · exact .inr ⟨by simp [h, i1], by rw [i2]; rfl⟩
/-- the keys of a map -/
structure PM (m : List (ByteArray × β)) (q : ByteArray → Prop) (n : Nat) : Prop where
  nodup : (keysM m).Nodup
  mem : ∀ y, y ∈ keysM m ↔ q y
  len : m.length ≤ n
theorem PM.put {m : List (ByteArray × β)} {q : ByteArray → Prop} {n : Nat} (h : PM m q n) (k : ByteArray) (v : β) : PM (mput keq m k v) (fun y => y = k ∨ q y) (n + 1) := by
  refine ⟨?_, fun y => ?_, Nat.le_trans (mput_len m k v) (by have := h.len; omega)⟩
  · rcases keys_mput m k v with ⟨hk, e⟩ | ⟨hk, e⟩ <;> rw [e]
    · exact h.nodup
    · refine List.pairwise_append.2 ⟨h.nodup, by simp, fun a ha b hb e => hk ?_⟩
      rw [List.mem_singleton] at hb
      rw [← hb, ← e]; exact ha
  · rcases keys_mput m k v with ⟨hk, e⟩ | ⟨hk, e⟩ <;> rw [e]
    · rw [h.mem]
      exact ⟨.inr, fun z => z.elim (fun e => by rw [e]; exact (h.mem k).1 hk) id⟩
    · rw [List.mem_append, List.mem_singleton, h.mem]; exact or_comm
theorem PM.congr {m : List (ByteArray × β)} {q q' : ByteArray → Prop} {n n' : Nat} (h : PM m q n) (e : ∀ y, q y ↔ q' y) (hn : n ≤ n') : PM m q' n' := ⟨h.nodup, fun y => (h.mem y).trans (e y), Nat.le_trans h.len hn⟩
theorem keysOf_eq (m : List (ByteArray × β)) : keysOf m = (keysM m).map (fun s => s.data.toList) := by unfold keysOf keysM; rw [List.map_map]; rfl
theorem sortedKeys_spec {m : List (ByteArray × β)} {q : ByteArray → Prop} {n : Nat} (h : PM m q n) (hn : n ≤ 100000) (hs : ∀ y, q y → y.size ≤ 200) : ∃ r, sortedKeys (some m) = some r ∧ AscS r ∧ (∀ y, y ∈ r ↔ q y) ∧ r.length ≤ n := by
  have hl := h.len
  refine ⟨((keysOf m).mergeSort leB).map fun l => (⟨l.toArray⟩ : ByteArray), ?_, ?_, fun y => ?_, ?_⟩
  · refine if_pos ⟨by omega, fun p hp => ?_⟩
    have := hs p.1 ((h.mem p.1).1 (List.mem_map_of_mem hp))
    unfold maxLen; omega
  · have tr : ∀ a b c : List UInt8, leB a b = true → leB b c = true → leB a c = true := fun a b c h1 h2 => by simp only [leB, decide_eq_true_eq] at *; exact List.le_trans h1 h2
    have tot : ∀ a b : List UInt8, (leB a b || leB b a) = true := fun a b => by simp only [leB, Bool.or_eq_true, decide_eq_true_eq]; exact List.le_total a b
    have h1 := List.pairwise_mergeSort tr tot (keysOf m)
    have h2 : ((keysOf m).mergeSort leB).Nodup := (List.mergeSort_perm _ leB).nodup_iff.2 (by
      rw [keysOf_eq]
      exact List.pairwise_map.2 (h.nodup.imp fun {a b} hne e => hne (bytes_ext e)))
    have h2 : ((keysOf m).mergeSort leB).Pairwise fun a b => a ≠ b := h2
    refine List.pairwise_map.2 ((h1.and h2).imp fun {a b} ⟨q1, q2⟩ => ?_)
    unfold lt
    show a.toArray.toList < b.toArray.toList
    rw [List.toList_toArray, List.toList_toArray]
    simp only [leB, decide_eq_true_eq] at q1
    rcases List.le_iff_lt_or_eq.1 q1 with z | z
    · exact z
    · exact absurd z q2
  · rw [List.mem_map]
    constructor
    · rintro ⟨x, hx, rfl⟩
      have hx := (List.mergeSort_perm _ leB).mem_iff.1 hx
      rw [keysOf_eq] at hx
      obtain ⟨s, hs', rfl⟩ := List.mem_map.1 hx
      have e : (⟨s.data.toList.toArray⟩ : ByteArray) = s := mkB_of s
      rw [e]; exact (h.mem s).1 hs'
    · intro hq
      exact ⟨y.data.toList, (List.mergeSort_perm _ leB).mem_iff.2 (by rw [keysOf_eq]; exact List.mem_map_of_mem (f := fun s : ByteArray => s.data.toList) ((h.mem y).2 hq)), mkB_of y⟩
  · rw [List.length_map, (List.mergeSort_perm _ leB).length_eq]
    unfold keysOf
    rw [List.length_map]; exact hl
end Go.Proofs.YtonfimidgbppeaaGreatDoor.Ev.Pth

namespace Go.Proofs.YtonfimidgbppeaaGreatDoor.Ev
open Go Go.RowKit
set_option linter.unusedVariables false
set_option linter.unusedSimpArgs false
variable {ι R α X : Type} {l : ι → Nat}
/-! ### a path, of the reference of chapter 2 -/
def eB (a b c d e f i : Bool) : Bool := bif a then (bif b then (bif c then i else bif d then i else false) else bif e then (bif c then i else bif d then i else false) else false) else bif f then (bif b then (bif c then i else bif d then i else false) else bif e then (bif c then i else bif d then i else false) else false) else false
theorem eB_pb (n : _root_.Fin 256) : eB (ilt (n : Nat) 97) (ilt (n : Nat) 65) (ilt (n : Nat) 48) (igt (n : Nat) 57) (igt (n : Nat) 90) (igt (n : Nat) 122) (ilt (Lib.indexByte [46, 95, 45, 43] (((n : Nat) : Int).toNat.toUInt8)) 0) = bnot (Pth.pb ((n : Nat) : Int)) := by
  revert n; decide +kernel
def nestE (k : Nat) (b : Int) (G : Bool → Option Bool) : Option Bool := cnd (ilt b 97) (cnd (ilt b 65) (cnd (ilt b 48) (bnd (S145 k ((⟨#[46, 95, 45, 43]⟩ : ByteArray), b, ())) (fun (a6 : Int) => G (ilt a6 0))) (cnd (igt b 57) (bnd (S145 k ((⟨#[46, 95, 45, 43]⟩ : ByteArray), b, ())) (fun (a6 : Int) => G (ilt a6 0))) (G false))) (cnd (igt b 90) (cnd (ilt b 48) (bnd (S145 k ((⟨#[46, 95, 45, 43]⟩ : ByteArray), b, ())) (fun (a6 : Int) => G (ilt a6 0))) (cnd (igt b 57) (bnd (S145 k ((⟨#[46, 95, 45, 43]⟩ : ByteArray), b, ())) (fun (a6 : Int) => G (ilt a6 0))) (G false))) (G false))) (cnd (igt b 122) (cnd (ilt b 65) (cnd (ilt b 48) (bnd (S145 k ((⟨#[46, 95, 45, 43]⟩ : ByteArray), b, ())) (fun (a6 : Int) => G (ilt a6 0))) (cnd (igt b 57) (bnd (S145 k ((⟨#[46, 95, 45, 43]⟩ : ByteArray), b, ())) (fun (a6 : Int) => G (ilt a6 0))) (G false))) (cnd (igt b 90) (cnd (ilt b 48) (bnd (S145 k ((⟨#[46, 95, 45, 43]⟩ : ByteArray), b, ())) (fun (a6 : Int) => G (ilt a6 0))) (cnd (igt b 57) (bnd (S145 k ((⟨#[46, 95, 45, 43]⟩ : ByteArray), b, ())) (fun (a6 : Int) => G (ilt a6 0))) (G false))) (G false))) (G false))
theorem nestE_eq (k : Nat) (b : UInt8) (G : Bool → Option Bool) : nestE k (b.toNat : Int) G = G (bnot (Pth.pb (b.toNat : Int))) := by
  have hb := eB_pb ⟨b.toNat, b.toNat_lt⟩
  dsimp only at hb
  rw [← hb]
  have hi : bnd (S145 k ((⟨#[46, 95, 45, 43]⟩ : ByteArray), (b.toNat : Int), ())) (fun a6 => G (ilt a6 0)) = G (ilt (Lib.indexByte [46, 95, 45, 43] ((b.toNat : Int).toNat.toUInt8)) 0) := rfl
  unfold nestE
  simp only [hi]
  generalize ilt (Lib.indexByte [46, 95, 45, 43] ((b.toNat : Int).toNat.toUInt8)) 0 = i
  generalize ilt (b.toNat : Int) 97 = c1
  generalize ilt (b.toNat : Int) 65 = c2
  generalize ilt (b.toNat : Int) 48 = c3
  generalize igt (b.toNat : Int) 57 = c4
  generalize igt (b.toNat : Int) 90 = c5
  generalize igt (b.toNat : Int) 122 = c6
  cases c1 <;> cases c2 <;> cases c3 <;> cases c4 <;> cases c5 <;> cases c6 <;> rfl
theorem nest_spec (b : UInt8) (kk : ι → Nat) {F : ι → Option Bool} {r : Bool} (hF : Ult l F r) : Ult l (fun i => nestE (kk i) (b.toNat : Int) (fun a5 => cnd a5 (some false) (F i))) (Pth.pb (b.toNat : Int) && r) := by
  refine Ult.congr (f := fun i => cnd (bnot (Pth.pb (b.toNat : Int))) (some false) (F i)) ?_ fun i => nestE_eq (kk i) b _
  cases Pth.pb (b.toNat : Int) with
  | true => exact Ult.no rfl (hF.eq (by simp))
  | false => exact Ult.yes rfl (Ult.ret.eq (by simp))
theorem partR2_spec (s : ByteArray) (hs : s.size ≤ 9223372036854775807) : Ultk (fun k => S90 k (s, ())) (Pth.isPartD s) := by
  unfold S90
  refine (Ult.forI (fun _ => Nat.le_refl _) s.size (fun j => Pth.allP (s.data.toList.drop j) && decide (s ≠ ⟨#[]⟩ ∧ s ≠ Pth.dot1 ∧ s ≠ Pth.dot2)) fun j hj next => ?_).eq (by rw [List.drop_zero]; rfl)
  rw [Pth.iltS]
  by_cases hlt : j < s.size
  · have hl : j < s.data.toList.length := by simpa using hlt
    refine Ult.yes (decide_eq_true hlt) (Ult.bindc (Pth.bt?_get hlt) ?_)
    rw [Pth.bt_get hlt]
    dsimp only at next ⊢
    rw [isucc hlt hs]
    have nx := next hlt
    rw [drop_cons hl]
    unfold Pth.allP at nx ⊢
    rw [List.all_cons]
    generalize s.data.toList[j] = b at *
    rw [Bool.and_assoc]
    exact nest_spec b (fun p => p.1) nx
  · refine Ult.no (decide_eq_false hlt) ?_
    rw [List.drop_eq_nil_of_le (by simp; omega), sne_eq, sne_eq, sne_eq]
    by_cases h1 : s = ⟨#[]⟩
    · exact Ult.no (by simp [h1]) (Ult.ret.eq (by simp [h1]))
    refine Ult.yes (by simp [h1]) ?_
    by_cases h2 : s = Pth.dot1
    · exact Ult.no (decide_eq_false (fun q => q h2)) (Ult.ret.eq (by simp [h2]))
    refine Ult.yes (decide_eq_true h2) (Ult.ret.eq ?_)
    simp only [Pth.allP, List.all_nil, Bool.true_and, decide_eq_decide]
    exact ⟨fun h => ⟨h1, h2, h⟩, fun h => h.2.2⟩
theorem within2_spec (a b c : Int) : Ultk (fun k => S36 k (a, b, c, ())) (decide (b ≤ a ∧ a ≤ c)) := by
  unfold S36
  dsimp only
  by_cases h1 : b ≤ a
  · exact Ult.yes (decide_eq_true h1) (Ult.ret.eq (by rw [ile_eq]; simp [h1]))
  · exact Ult.no (decide_eq_false h1) (Ult.ret.eq (by simp [h1]))
theorem pathR2_spec (s : ByteArray) (hs : s.size < 4294967281) : Ultk (fun k => S51 k (s, ())) (Pth.isPathD s) := by
  unfold S51 Pth.isPathD
  have hw := within2_spec (ssz s) 1 200
  have e : decide ((1 : Int) ≤ ssz s ∧ ssz s ≤ 200) = decide (1 ≤ s.size ∧ s.size ≤ 200) := by
    rw [decide_eq_decide]; unfold ssz; omega
  rw [e] at hw
  refine Ult.bind (Pth.split_spec s hs) ?_
  have hl := all_loop (l := fun k : Nat => k) (kk := fun k => k) (fun _ => Nat.le_refl _) (Pth.parts s) (fun k a => S90 k (a, ())) Pth.isPartD (Ult.bind hw Ult.ret) (Ult.ret (r := false)) (fun p hp => partR2_spec p (by have := Pth.parts_size hp; omega)) (by have := Pth.parts_len s; omega)
  refine hl.eq ?_
  cases (Pth.parts s).all Pth.isPartD <;> simp
/-! ### names -/
def nb (b : UInt8) : Bool := decide (97 ≤ b.toNat ∧ b.toNat ≤ 122) || (decide (48 ≤ b.toNat ∧ b.toNat ≤ 57) || decide (b.toNat = 95))
def wordsL : List ByteArray := [⟨#[109, 97, 99, 114, 111]⟩, ⟨#[102, 111, 114]⟩, ⟨#[105, 110]⟩, ⟨#[105, 102]⟩, ⟨#[101, 108, 115, 101]⟩, ⟨#[117, 115, 101]⟩, ⟨#[102, 105, 108, 101, 115]⟩, ⟨#[99, 104, 111, 111, 115, 101]⟩]
def isSmL : List UInt8 → Bool
  | [] => false
  | b :: _ => decide (97 ≤ b.toNat ∧ b.toNat ≤ 122)
theorem isSmL_get : ∀ (L : List UInt8) (h : 0 < L.length), isSmL L = decide (97 ≤ (L[0]'h).toNat ∧ (L[0]'h).toNat ≤ 122)
  | [], h => by simp at h
  | b :: r, h => rfl
def isSm (s : ByteArray) : Bool := isSmL s.data.toList
def isNm (s : ByteArray) : Bool := decide (1 ≤ s.size ∧ s.size ≤ 40) && (isSm s && (s.data.toList.all nb && bnot (memB wordsL s)))
theorem isSm_get {s : ByteArray} (h : 0 < s.size) : isSm s = decide (97 ≤ (s.data.toList[0]'(by simpa using h)).toNat ∧ (s.data.toList[0]'(by simpa using h)).toNat ≤ 122) := isSmL_get _ _
theorem small_spec (b : UInt8) : Ultk (fun k => S147 k ((b.toNat : Int), ())) (decide (97 ≤ b.toNat ∧ b.toNat ≤ 122)) := by
  unfold S147
  by_cases h : 97 ≤ b.toNat
  · exact Ult.yes (by rw [ige_eq]; exact decide_eq_true (by omega)) (Ult.ret.eq (by rw [ile_eq, decide_eq_decide]; omega))
  · exact Ult.no (by rw [ige_eq]; exact decide_eq_false (by omega)) (Ult.ret.eq (by rw [decide_eq_false (by omega)]))
theorem digit_spec (b : UInt8) : Ultk (fun k => S148 k ((b.toNat : Int), ())) (decide (48 ≤ b.toNat ∧ b.toNat ≤ 57)) := by
  unfold S148
  by_cases h : 48 ≤ b.toNat
  · exact Ult.yes (by rw [ige_eq]; exact decide_eq_true (by omega)) (Ult.ret.eq (by rw [ile_eq, decide_eq_decide]; omega))
  · exact Ult.no (by rw [ige_eq]; exact decide_eq_false (by omega)) (Ult.ret.eq (by rw [decide_eq_false (by omega)]))
theorem nameByte_spec (b : UInt8) : Ultk (fun k => S91 k ((b.toNat : Int), ())) (nb b) := by
  unfold S91 nb
  have last : Ultk (fun _ => some (ieq (b.toNat : Int) 95)) (decide (b.toNat = 95)) := Ult.ret.eq (by rw [ieq_eq, decide_eq_decide]; omega)
  have mid : Ultk (fun _ => cnd (ige (b.toNat : Int) 48) (cnd (ile (b.toNat : Int) 57) (some true) (some (ieq (b.toNat : Int) 95))) (some (ieq (b.toNat : Int) 95))) (decide (48 ≤ b.toNat ∧ b.toNat ≤ 57) || decide (b.toNat = 95)) := by
    by_cases h : 48 ≤ b.toNat
    · refine Ult.yes (by rw [ige_eq]; exact decide_eq_true (by omega)) ?_
      by_cases h' : b.toNat ≤ 57
      · exact Ult.yes (by rw [ile_eq]; exact decide_eq_true (by omega)) (Ult.ret.eq (by rw [decide_eq_true ⟨h, h'⟩]; rfl))
      · exact Ult.no (by rw [ile_eq]; exact decide_eq_false (by omega)) (last.eq (by rw [decide_eq_false (by omega : ¬ (48 ≤ b.toNat ∧ b.toNat ≤ 57)), Bool.false_or]))
    · exact Ult.no (by rw [ige_eq]; exact decide_eq_false (by omega)) (last.eq (by rw [decide_eq_false (by omega : ¬ (48 ≤ b.toNat ∧ b.toNat ≤ 57)), Bool.false_or]))
  by_cases h : 97 ≤ b.toNat
  · refine Ult.yes (by rw [ige_eq]; exact decide_eq_true (by omega)) ?_
    by_cases h' : b.toNat ≤ 122
    · exact Ult.yes (by rw [ile_eq]; exact decide_eq_true (by omega)) (Ult.ret.eq (by rw [decide_eq_true ⟨h, h'⟩]; rfl))
    · exact Ult.no (by rw [ile_eq]; exact decide_eq_false (by omega)) (mid.eq (by rw [decide_eq_false (by omega : ¬ (97 ≤ b.toNat ∧ b.toNat ≤ 122)), Bool.false_or]))
  · exact Ult.no (by rw [ige_eq]; exact decide_eq_false (by omega)) (mid.eq (by rw [decide_eq_false (by omega : ¬ (97 ≤ b.toNat ∧ b.toNat ≤ 122)), Bool.false_or]))
theorem split_words : Ultk (fun k => S89 k ((⟨#[109, 97, 99, 114, 111, 32, 102, 111, 114, 32, 105, 110, 32, 105, 102, 32, 101, 108, 115, 101, 32, 117, 115, 101, 32, 102, 105, 108, 101, 115, 32, 99, 104, 111, 111, 115, 101]⟩ : ByteArray), (⟨#[32]⟩ : ByteArray), ())) wordsL := ⟨0, fun k _ => by
  unfold S89
  rw [if_pos ⟨by decide, show 1 ≤ (⟨#[32]⟩ : ByteArray).size by decide⟩]
  exact congrArg some ((split_one 32 _).trans (by decide +kernel))⟩
theorem wordsP_spec : Ultk (fun k => S149 k ()) wordsL := by
  unfold S149
  exact Ult.ret
theorem nameP_spec (s : ByteArray) : Ultk (fun k => S93 k (s, ())) (isNm s) := by
  unfold S93 isNm
  refine Ult.jn ?_
  dsimp only
  by_cases h1 : s.size < 1
  · exact Ult.yes (by simp only [ilt_eq, ssz, decide_eq_true_eq]; omega) (Ult.ret.eq (by rw [decide_eq_false (by omega : ¬ (1 ≤ s.size ∧ s.size ≤ 40))]; rfl))
  refine Ult.no (by simp only [ilt_eq, ssz, decide_eq_false_iff_not]; omega) ?_
  by_cases h2 : 40 < s.size
  · exact Ult.yes (by simp only [igt_eq, ssz, decide_eq_true_eq]; omega) (Ult.ret.eq (by rw [decide_eq_false (by omega : ¬ (1 ≤ s.size ∧ s.size ≤ 40))]; rfl))
  refine Ult.no (by simp only [igt_eq, ssz, decide_eq_false_iff_not]; omega) ?_
  rw [decide_eq_true (show 1 ≤ s.size ∧ s.size ≤ 40 by omega), Bool.true_and]
  have h0 : 0 < s.size := by omega
  have hb0 : bt? s 0 = some (((s.data.toList[0]'(by simpa using h0)).toNat : Nat) : Int) := by
    rw [show bt? s 0 = some (bt s ((0 : Nat) : Int)) from Pth.bt?_get (j := 0) h0, Pth.bt_get (j := 0) h0]
  rw [isSm_get h0]
  refine Ult.bindc hb0 (Ult.bind (small_spec _) ?_)
  cases decide (97 ≤ (s.data.toList[0]'(by simpa using h0)).toNat ∧ (s.data.toList[0]'(by simpa using h0)).toNat ≤ 122) with
  | false => exact Ult.yes rfl Ult.ret
  | true =>
    refine Ult.no rfl ?_
    rw [Bool.true_and]
    refine (Ult.forI (fun _ => Nat.le_refl _) s.size (fun j => (s.data.toList.drop j).all nb && bnot (memB wordsL s)) fun j hj next => ?_).eq (by rw [List.drop_zero])
    rw [Pth.iltS]
    by_cases hlt : j < s.size
    · have hl : j < s.data.toList.length := by simpa using hlt
      have hbj := Pth.bt?_get hlt
      rw [Pth.bt_get hlt] at hbj
      refine Ult.yes (decide_eq_true hlt) (Ult.bindc hbj ?_)
      rw [isucc hlt (by omega)]
      have nx := next hlt
      rw [drop_cons hl, List.all_cons]
      generalize s.data.toList[j] = b at *
      refine Ult.bind (Ult.call (f := fun k => S147 k ((b.toNat : Int), ())) (lp_le _ _ fun _ => Nat.le_refl _) (small_spec b)) ?_
      by_cases s1 : 97 ≤ b.toNat ∧ b.toNat ≤ 122
      · have : nb b = true := by unfold nb; rw [decide_eq_true s1]; rfl
        rw [decide_eq_true s1, this]
        exact Ult.no rfl nx
      rw [decide_eq_false s1]
      refine Ult.yes rfl (Ult.bindc hbj (Ult.bind (Ult.call (f := fun k => S148 k ((b.toNat : Int), ())) (lp_le _ _ fun _ => Nat.le_refl _) (digit_spec b)) ?_))
      by_cases s2 : 48 ≤ b.toNat ∧ b.toNat ≤ 57
      · have : nb b = true := by unfold nb; rw [decide_eq_true s2]; simp
        rw [decide_eq_true s2, this]
        exact Ult.no rfl nx
      rw [decide_eq_false s2]
      refine Ult.yes rfl (Ult.bindc hbj ?_)
      by_cases s3 : b.toNat = 95
      · have : nb b = true := by unfold nb; rw [decide_eq_true s3]; simp
        rw [this]
        exact Ult.no (by rw [ine_eq]; exact decide_eq_false (by omega)) nx
      · have : nb b = false := by unfold nb; rw [decide_eq_false s1, decide_eq_false s2, decide_eq_false s3]; rfl
        rw [this]
        exact Ult.yes (by rw [ine_eq]; exact decide_eq_true (by omega)) Ult.ret
    · refine Ult.no (decide_eq_false hlt) ?_
      rw [List.drop_eq_nil_of_le (by simp; omega), List.all_nil, Bool.true_and]
      refine Ult.bind (Ult.call (f := fun k => S149 k ()) (lp_le _ _ fun _ => Nat.le_refl _) wordsP_spec) ?_
      exact Ult.bind (Ult.call (f := fun k => S61 k (wordsL, s, ())) (lp_le _ _ fun _ => Nat.le_refl _) (S61_spec wordsL s (by decide))) Ult.ret
theorem nameR_spec (s : ByteArray) : Ultk (fun k => S52 k (s, ())) (isNm s) := by
  unfold S52 isNm
  refine Ult.jn ?_
  dsimp only
  have hw := within2_spec (ssz s) 1 40
  have e : decide ((1 : Int) ≤ ssz s ∧ ssz s ≤ 40) = decide (1 ≤ s.size ∧ s.size ≤ 40) := by
    rw [decide_eq_decide]; unfold ssz; omega
  rw [e] at hw
  refine Ult.bind hw ?_
  by_cases h : ¬ (1 ≤ s.size ∧ s.size ≤ 40)
  · rw [decide_eq_false h]
    exact Ult.yes rfl Ult.ret
  have h := Decidable.not_not.1 h
  rw [decide_eq_true h, Bool.true_and]
  refine Ult.no rfl ?_
  have h0 : 0 < s.size := by omega
  have hb0 : bt? s 0 = some (((s.data.toList[0]'(by simpa using h0)).toNat : Nat) : Int) := by
    rw [show bt? s 0 = some (bt s ((0 : Nat) : Int)) from Pth.bt?_get (j := 0) h0, Pth.bt_get (j := 0) h0]
  rw [isSm_get h0]
  refine Ult.bindc hb0 ?_
  by_cases s1 : (s.data.toList[0]'(by simpa using h0)).toNat < 97
  · rw [decide_eq_false (show ¬ (97 ≤ (s.data.toList[0]'(by simpa using h0)).toNat ∧ (s.data.toList[0]'(by simpa using h0)).toNat ≤ 122) by omega)]
    exact Ult.yes (by rw [ilt_eq]; exact decide_eq_true (by omega)) Ult.ret
  refine Ult.no (by rw [ilt_eq]; exact decide_eq_false (by omega)) (Ult.bindc hb0 ?_)
  by_cases s2 : 122 < (s.data.toList[0]'(by simpa using h0)).toNat
  · rw [decide_eq_false (show ¬ (97 ≤ (s.data.toList[0]'(by simpa using h0)).toNat ∧ (s.data.toList[0]'(by simpa using h0)).toNat ≤ 122) by omega)]
    exact Ult.yes (by rw [igt_eq]; exact decide_eq_true (by omega)) Ult.ret
  refine Ult.no (by rw [igt_eq]; exact decide_eq_false (by omega)) ?_
  rw [decide_eq_true (show (97 ≤ (s.data.toList[0]'(by simpa using h0)).toNat ∧ (s.data.toList[0]'(by simpa using h0)).toNat ≤ 122) by omega), Bool.true_and]
  refine (Ult.forI (fun _ => Nat.le_refl _) s.size (fun j => (s.data.toList.drop j).all nb && bnot (memB wordsL s)) fun j hj next => ?_).eq (by rw [List.drop_zero])
  rw [Pth.iltS]
  by_cases hlt : j < s.size
  · have hl : j < s.data.toList.length := by simpa using hlt
    have hbj := Pth.bt?_get hlt
    rw [Pth.bt_get hlt] at hbj
    refine Ult.yes (decide_eq_true hlt) (Ult.bindc hbj ?_)
    rw [isucc hlt (by omega)]
    have nx := next hlt
    rw [drop_cons hl, List.all_cons]
    generalize s.data.toList[j] = b at *
    refine Ult.bind (Ult.call (f := fun k => S91 k ((b.toNat : Int), ())) (lp_le _ _ fun _ => Nat.le_refl _) (nameByte_spec b)) ?_
    cases hnb : nb b with
    | true => exact Ult.no rfl nx
    | false => exact Ult.yes rfl Ult.ret
  · refine Ult.no (decide_eq_false hlt) ?_
    rw [List.drop_eq_nil_of_le (by simp; omega), List.all_nil, Bool.true_and]
    refine Ult.bind (Ult.call (f := fun k => S89 k ((⟨#[109, 97, 99, 114, 111, 32, 102, 111, 114, 32, 105, 110, 32, 105, 102, 32, 101, 108, 115, 101, 32, 117, 115, 101, 32, 102, 105, 108, 101, 115, 32, 99, 104, 111, 111, 115, 101]⟩ : ByteArray), (⟨#[32]⟩ : ByteArray), ())) (lp_le _ _ fun _ => Nat.le_refl _) split_words) ?_
    exact Ult.bind (Ult.call (f := fun k => S61 k (wordsL, s, ())) (lp_le _ _ fun _ => Nat.le_refl _) (S61_spec wordsL s (by decide))) Ult.ret
end Go.Proofs.YtonfimidgbppeaaGreatDoor.Ev

namespace Go.Proofs.YtonfimidgbppeaaGreatDoor.Ev
open Go Go.RowKit
set_option linter.unusedVariables false
set_option linter.unusedSimpArgs false
variable {ι R α X : Type} {l : ι → Nat}
abbrev Attr : Type := ByteArray × V1
abbrev Target : Type := ByteArray × ByteArray × List Attr
def AttrsSz (A : List Attr) : Prop := A.length * 96 ≤ 140737488351232 ∧ ∀ a ∈ A, a.1.size ≤ 140737488351232 ∧ V1Sz a.2
def TgtSz (t : Target) : Prop := t.1.size ≤ 140737488351232 ∧ t.2.1.size ≤ 140737488351232 ∧ AttrsSz t.2.2
theorem AttrsSz.len {A : List Attr} (h : AttrsSz A) : A.length ≤ 9223372036854775807 := by have := len_big h.1 (by omega); omega
def chkAttrs : Option ByteArray → List Attr → Int
  | _, [] => 0
  | prev, a :: r => if isNm a.1 = false then 5 else if chk1 a.2 ≠ 0 then chk1 a.2 else if notAbove prev a.1 = true then 8 else chkAttrs (some a.1) r
def nmB : ByteArray := ⟨#[110, 97, 109, 101]⟩
def kdB : ByteArray := ⟨#[107, 105, 110, 100]⟩
def badName (a : Attr) : Bool := decide (a.1 = nmB) || decide (a.1 = kdB)
def chkTarget (t : Target) : Int := if Pth.isPathD t.1 = false then 3 else if isNm t.2.1 = false then 5 else if 30 < t.2.2.length then 2 else if chkAttrs none t.2.2 ≠ 0 then chkAttrs none t.2.2 else if t.2.2.any badName = true then 5 else 0
theorem order_stepA {A : List (ByteArray × α)} {j : Nat} (hlt : j < A.length) (hA : A.length ≤ 9223372036854775807) {rest : Int} {f : ι → Option Int} (nx : Ult l f rest) :
    Ult l (fun i => cnd (igt (j : Int) 0) (bnd (at? A (isub .i64 (j : Int) 1)) fun a => cnd (sle A[j].1 a.1) (some 8) (f i)) (f i)) (if notAbove (prevOf A j) A[j].1 = true then 8 else rest) := by
  rw [igt0]
  by_cases h0 : 0 < j
  · refine Ult.yes (decide_eq_true h0) ?_
    rw [ipred (n := A.length) h0 (by omega) (by omega)]
    refine Ult.bindc (at?_nat (show j - 1 < A.length by omega)) ?_
    have hp : prevOf A j = some A[j - 1].1 := by unfold prevOf; rw [dif_pos ⟨h0, by omega⟩]
    rw [hp]
    exact Ult.ifS (dec_true _) (fun _ => Ult.ret) fun _ => nx
  · refine Ult.no (decide_eq_false h0) ?_
    have : j = 0 := by omega
    subst this
    rw [prevOf_zero, if_neg (by simp [notAbove])]
    exact nx
theorem chkAttrs_step {A : List Attr} {j : Nat} (h : j < A.length) : chkAttrs (prevOf A j) (A.drop j) = if isNm A[j].1 = false then 5 else if chk1 A[j].2 ≠ 0 then chk1 A[j].2 else if notAbove (prevOf A j) A[j].1 = true then 8 else chkAttrs (prevOf A (j + 1)) (A.drop (j + 1)) := by
  rw [drop_cons h, chkAttrs, prevOf_succ h]
theorem attr_loop {kk : ι → Nat} (hk : ∀ i, l i ≤ kk i) (A : List Attr) (hA : AttrsSz A) (nmf : ι → ByteArray → Option Bool) (cv : ι → V1 → Option Int) (hn : ∀ s, Ult l (fun i => nmf i s) (isNm s)) (hc : ∀ v, V1Sz v → Ult l (fun i => cv i v) (chk1 v)) {y : ι → Option Int} {r : Int} (hy : Ult l y r) :
    Ult l (fun i => loopN (kk i) (fun (a4 : Int → Option Int) (a5 : Int) => cnd (ilt a5 (len A)) (bnd (at? A a5) fun a6 => bnd (nmf i a6.1) fun a7 => cnd (bnot a7) (some 5) (bnd (cv i (a6.2.1, a6.2.2.1, a6.2.2.2.1, a6.2.2.2.2.1, a6.2.2.2.2.2)) fun a8 => cnd (ine a8 0) (some a8) (cnd (igt a5 0) (bnd (at? A (isub .i64 a5 1)) fun a9 => cnd (sle a6.1 a9.1) (some 8) (a4 (iadd .i64 a5 1))) (a4 (iadd .i64 a5 1))))) (y i)) 0)
      (if chkAttrs none A ≠ 0 then chkAttrs none A else r) := by
  have hl := hA.len
  refine (Ult.forI hk A.length (fun j => if chkAttrs (prevOf A j) (A.drop j) ≠ 0 then chkAttrs (prevOf A j) (A.drop j) else r) fun j hj next => ?_).eq (by rw [List.drop_zero, prevOf_zero])
  rw [iltL]
  by_cases hlt' : ¬ j < A.length
  · refine Ult.no (decide_eq_false hlt') ((Ult.lift hy).eq ?_)
    have e : chkAttrs (prevOf A j) (A.drop j) = 0 := by
      rw [List.drop_eq_nil_of_le (by omega)]
      cases prevOf A j <;> rfl
    rw [e, if_neg (fun q => q rfl)]
  have hlt : j < A.length := Decidable.not_not.1 hlt'
  refine Ult.yes (decide_eq_true hlt) (Ult.bindc (at?_nat hlt) ?_)
  rw [isucc hlt hl]
  have nx := next hlt
  clear next
  rw [chkAttrs_step hlt]
  refine Ult.bind (Ult.lift (hn A[j].1)) ?_
  cases h1 : isNm A[j].1 with
  | false => exact Ult.yes rfl (Ult.ret.eq (by simp))
  | true =>
    refine Ult.no rfl (Ult.bind (Ult.lift (hc A[j].2 (hA.2 _ (List.getElem_mem hlt)).2)) ?_)
    have e0 : ∀ x : Int, (if true = false then (5 : Int) else x) = x := fun x => rfl
    rw [e0]
    by_cases h2 : chk1 A[j].2 ≠ 0
    · rw [if_pos h2, if_pos h2]
      exact Ult.yes (by rw [ine_eq]; exact decide_eq_true h2) Ult.ret
    rw [if_neg h2]
    refine Ult.no (by rw [ine_eq]; exact decide_eq_false h2) ?_
    refine (order_stepA hlt hl nx).eq ?_
    cases notAbove (prevOf A j) A[j].1 with
    | true => simp
    | false => simp
/-! ### the program -/
theorem attrs_idx {kk : ι → Nat} (hk : ∀ i, l i ≤ kk i) (L : List Attr) (f : ι → Attr → Option Bool) (p : Attr → Bool) (hf : ∀ a ∈ L, Ult l (fun i => f i a) (p a)) (hL : L.length ≤ 9223372036854775807) : Ult l (fun i => S94 (kk i) (L, f i, ())) (L.any p) := by
  unfold S94
  refine Ult.bind ?_ (Ult.ret.eq idxF_any)
  unfold S150
  exact idx_loop hk L f p hf hL
theorem target_prog (t : Target) (h : TgtSz t) : Ultk (fun k => S53 k (t, ())) (chkTarget t) := by
  unfold S53 chkTarget
  dsimp only
  refine Ult.bind (Pth.isPath_spec t.1) (Ult.ifS (not_false_eq _) (fun _ => Ult.ret) fun _ => ?_)
  refine Ult.bind (nameP_spec t.2.1) (Ult.ifS (not_false_eq _) (fun _ => Ult.ret) fun _ => ?_)
  refine Ult.ifS (by rw [igt_eq]; unfold len; simp only [decide_eq_decide]; omega) (fun _ => Ult.ret) fun _ => ?_
  refine attr_loop (l := fun k : Nat => k) (kk := fun k => k) (fun _ => Nat.le_refl _) t.2.2 h.2.2 (fun k s => S93 k (s, ())) (fun k v => S40 k (v, ())) nameP_spec chk1_prog ?_
  refine Ult.bind (attrs_idx (l := fun k : Nat => k) (kk := fun k => k) (fun _ => Nat.le_refl _) t.2.2 (fun k a => S95 k (a, ())) badName (fun a _ => ?_) h.2.2.len) (Ult.ifS (dec_true _) (fun _ => Ult.ret) fun _ => Ult.ret)
  unfold S95 badName
  dsimp only
  by_cases e : a.1 = nmB
  · exact Ult.yes (by rw [seq_eq]; exact decide_eq_true e) (Ult.ret.eq (by rw [decide_eq_true e]; rfl))
  · exact Ult.no (by rw [seq_eq]; exact decide_eq_false e) (Ult.ret.eq (by rw [decide_eq_false e, Bool.false_or, seq_eq]; rfl))
/-! ### the reference -/
theorem target_ref (t : Target) (h : TgtSz t) (hn : t.1.size < 4294967281) : Ultk (fun k => S20 k (t, ())) (chkTarget t) := by
  unfold S20 chkTarget
  dsimp only
  refine Ult.bind (pathR2_spec t.1 hn) (Ult.ifS (not_false_eq _) (fun _ => Ult.ret) fun _ => ?_)
  refine Ult.bind (nameR_spec t.2.1) (Ult.ifS (not_false_eq _) (fun _ => Ult.ret) fun _ => ?_)
  refine Ult.ifS (by rw [igt_eq]; unfold len; simp only [decide_eq_decide]; omega) (fun _ => Ult.ret) fun _ => ?_
  refine attr_loop (l := fun k : Nat => k) (kk := fun k => k) (fun _ => Nat.le_refl _) t.2.2 h.2.2 (fun k s => S52 k (s, ())) (fun k v => S10 k (v, ())) nameR_spec chk1_ref ?_
  have hl := h.2.2.len
  refine (Ult.forI (fun _ => Nat.le_refl _) t.2.2.length (fun j => if (t.2.2.drop j).any badName = true then 5 else 0) fun j hj next => ?_).eq (by rw [List.drop_zero])
  rw [iltL]
  by_cases hlt' : ¬ j < t.2.2.length
  · refine Ult.no (decide_eq_false hlt') (Ult.ret.eq ?_)
    rw [List.drop_eq_nil_of_le (by omega)]; rfl
  have hlt : j < t.2.2.length := Decidable.not_not.1 hlt'
  refine Ult.yes (decide_eq_true hlt) (Ult.bindc (at?_nat hlt) ?_)
  rw [drop_cons hlt, List.any_cons, isucc hlt hl]
  unfold badName at next ⊢
  by_cases e : t.2.2[j].1 = nmB
  · exact Ult.yes (by rw [seq_eq]; exact decide_eq_true e) (Ult.ret.eq (by rw [decide_eq_true e]; simp))
  refine Ult.no (by rw [seq_eq]; exact decide_eq_false e) ?_
  by_cases e2 : t.2.2[j].1 = kdB
  · exact Ult.yes (by rw [seq_eq]; exact decide_eq_true e2) (Ult.ret.eq (by rw [decide_eq_true e2]; simp))
  · exact Ult.no (by rw [seq_eq]; exact decide_eq_false e2) ((next hlt).eq (by rw [decide_eq_false e, decide_eq_false e2, Bool.false_or, Bool.false_or]))
/-! ### what a right target is -/
theorem chkAttrs_zero : ∀ {A : List Attr} {prev : Option ByteArray}, chkAttrs prev A = 0 → ∀ a ∈ A, isNm a.1 = true ∧ chk1 a.2 = 0
  | [], _, _, a, ha => by cases ha
  | b :: r, prev, h, a, ha => by
    rw [chkAttrs] at h
    split at h
    · cases h
    rename_i h1
    split at h
    · rename_i q; exact absurd h q
    rename_i h2
    split at h
    · cases h
    rcases List.mem_cons.1 ha with rfl | ha
    · exact ⟨by simpa using h1, Decidable.not_not.1 h2⟩
    · exact chkAttrs_zero h a ha
theorem chkTarget_zero {t : Target} (h : chkTarget t = 0) : t.2.2.length ≤ 30 ∧ ∀ a ∈ t.2.2, chk1 a.2 = 0 := by
  unfold chkTarget at h
  split at h
  · cases h
  split at h
  · cases h
  split at h
  · cases h
  rename_i h3
  split at h
  · rename_i q; exact absurd h q
  rename_i h4
  exact ⟨by omega, fun a ha => (chkAttrs_zero (Decidable.not_not.1 h4) a ha).2⟩
theorem flat_cases {v : V1} (h : chk1 v = 0) : ∀ c ∈ v.2.2.2.2, c.2.2.2.2.2 = 0 := fun q hq => by
  obtain ⟨z1, z2, z3⟩ := chk1_zero h
  by_cases hk : v.1 = 4
  · exact ((chkCases_zero (z2 hk)).2 q hq).2
  · rw [z1 hk] at hq; cases hq
theorem copyT_spec (t : Target) (h : TgtSz t) (h0 : chkTarget t = 0) : Ultk (fun k => S21 k (t, ())) t := by
  unfold S21
  obtain ⟨n, kd, A⟩ := t
  obtain ⟨c1, c2⟩ := chkTarget_zero h0
  have hA : AttrsSz A := h.2.2
  have c1 : A.length ≤ 30 := c1
  have c2 : ∀ a ∈ A, chk1 a.2 = 0 := c2
  have hl := hA.len
  dsimp only
  refine Ult.forA (A := List Attr) (fun _ => Nat.le_refl _) A.length (fun a j => (a, (j : Int))) (fun a j => a = A.take j) (fun _ _ => (n, kd, A)) [] (by rw [List.take_zero]) fun a j hj ha next => ?_
  dsimp only
  rw [iltL]
  by_cases hlt' : ¬ j < A.length
  · refine Ult.no (decide_eq_false hlt') (Ult.ret.eq ?_)
    rw [List.take_of_length_le (by omega)] at ha
    rw [ha]
  have hlt : j < A.length := Decidable.not_not.1 hlt'
  have hm := List.getElem_mem hlt
  obtain ⟨_, hv⟩ := hA.2 _ hm
  have cv := c2 _ hm
  refine Ult.yes (decide_eq_true hlt) (Ult.bindc (at?_nat hlt) ?_)
  refine Ult.bind (Ult.call (f := fun k => S11 k (A[j].2, ())) (lp_le _ _ fun _ => Nat.le_refl _) (copy1_spec A[j].2 hv (flat_cases cv) (chk1_zero cv).2.2)) ?_
  refine Ult.bindc (app?_ok (by subst ha; simp only [List.length_take, List.length_cons, List.length_nil]; show _ * 96 ≤ _; omega)) ?_
  rw [isucc hlt hl]
  refine next _ hlt ?_
  subst ha
  rw [List.take_succ_eq_append_getElem hlt]
/-- a target is equal to itself -/
theorem sameT_self (t : Target) (hl : t.2.2.length ≤ 9223372036854775807) (hv : ∀ a ∈ t.2.2, V1Sz a.2 ∧ ∀ c ∈ a.2.2.2.2.2, c.2.2.2.2.2 = 0) : Ultk (fun k => S23 k (t, t, ())) true := by
  unfold S23
  refine Ult.jn ?_
  dsimp only
  refine Ult.no (by rw [sne_eq]; simp) (Ult.no (by rw [sne_eq]; simp) (Ult.no (by rw [ine_eq]; simp) ?_))
  refine Ult.forI (fun _ => Nat.le_refl _) t.2.2.length (fun _ => true) fun j hj next => ?_
  rw [iltL]
  by_cases hlt' : ¬ j < t.2.2.length
  · exact Ult.no (decide_eq_false hlt') Ult.ret
  have hlt : j < t.2.2.length := Decidable.not_not.1 hlt'
  obtain ⟨q1, q2⟩ := hv _ (List.getElem_mem hlt)
  refine Ult.yes (decide_eq_true hlt) (Ult.bindc (at?_nat hlt) (Ult.bindc (at?_nat hlt) (Ult.no (by rw [sne_eq]; simp) (Ult.bindc (at?_nat hlt) (Ult.bindc (at?_nat hlt) ?_)))))
  refine Ult.bind (Ult.call (f := fun k => S13 k (t.2.2[j].2, t.2.2[j].2, ())) (lp_le _ _ fun _ => Nat.le_refl _) (same_self _ q1 q2)) ?_
  rw [isucc hlt hl]
  exact Ult.no rfl (next hlt)
end Go.Proofs.YtonfimidgbppeaaGreatDoor.Ev

namespace Go.Proofs.YtonfimidgbppeaaGreatDoor.Ev
open Go Go.RowKit
set_option linter.unusedVariables false
set_option linter.unusedSimpArgs false
variable {ι R α X : Type} {l : ι → Nat}
theorem upTo_succ (d : Array (List UInt8)) (m : Nat) : Lib.compactUpTo d (m + 1) = Lib.compactUpTo d m ++ (if Lib.keeps d m = true then [d[m]!] else []) := by
  unfold Lib.compactUpTo
  rw [List.range_succ, List.filter_append, List.map_append]
  congr 1
  cases h : Lib.keeps d m <;> simp [h]
theorem upTo_facts (d : Array (List UInt8)) (n : Nat) (hs : ∀ i j, i ≤ j → j < n → d[i]! ≤ d[j]!) : ∀ m, m ≤ n → (∀ x, x ∈ Lib.compactUpTo d m ↔ ∃ j, j < m ∧ d[j]! = x) ∧ (Lib.compactUpTo d m).Pairwise (fun a b => a < b)
  | 0, _ => ⟨fun x => by simp [Lib.compactUpTo], by simp [Lib.compactUpTo]⟩
  | m + 1, hm => by
    obtain ⟨h1, h2⟩ := upTo_facts d n hs m (by omega)
    rw [upTo_succ]
    by_cases hk : Lib.keeps d m = true
    · rw [if_pos hk]
      refine ⟨fun x => ?_, List.pairwise_append.2 ⟨h2, by simp, fun a ha b hb => ?_⟩⟩
      · rw [List.mem_append, h1, List.mem_singleton]
        constructor
        · rintro (⟨j, q1, q2⟩ | q)
          · exact ⟨j, by omega, q2⟩
          · exact ⟨m, by omega, q.symm⟩
        · rintro ⟨j, q1, q2⟩
          rcases Nat.lt_or_ge j m with q | q
          · exact .inl ⟨j, q, q2⟩
          · obtain rfl : j = m := by omega
            exact .inr q2.symm
      · rw [List.mem_singleton] at hb
        subst hb
        obtain ⟨j, q1, rfl⟩ := (h1 a).1 ha
        rcases Nat.eq_zero_or_pos m with e | e
        · omega
        · have hne : d[m]! ≠ d[m - 1]! := fun q => by
            have := Lib.keeps_neg (d := d) e q
            rw [this] at hk; cases hk
          have l1 := hs j (m - 1) (by omega) (by omega)
          have l2 := hs (m - 1) m (by omega) (by omega)
          rcases List.le_iff_lt_or_eq.1 l2 with z | z
          · exact List.lt_of_le_of_lt l1 z
          · exact absurd z.symm hne
    · rw [if_neg hk, List.append_nil]
      refine ⟨fun x => ?_, h2⟩
      rw [h1]
      constructor
      · rintro ⟨j, q1, q2⟩; exact ⟨j, by omega, q2⟩
      · rintro ⟨j, q1, q2⟩
        rcases Nat.lt_or_ge j m with q | q
        · exact ⟨j, q, q2⟩
        · obtain rfl : j = m := by omega
          rcases Nat.eq_zero_or_pos j with e | e
          · subst e
            exact absurd (Lib.keeps_lt_one d 0 (by omega)) hk
          · by_cases hq : d[j]! = d[j - 1]!
            · exact ⟨j - 1, by omega, by rw [← hq]; exact q2⟩
            · exact absurd (Lib.keeps_pos hq) hk
theorem cmpB_facts {S : List ByteArray} (hs : S.Pairwise fun a b => a.data.toList ≤ b.data.toList) : Pth.AscS (cmpB S) ∧ ∀ y, y ∈ cmpB S ↔ y ∈ S := by
  let zs : List (List UInt8) := S.map fun s => s.data.toList
  have hz : zs.length = S.length := by simp [zs]
  have hget : ∀ j (h : j < S.length), zs.toArray[j]! = S[j].data.toList := fun j h => by
    rw [getElem!_pos zs.toArray j (by simpa [zs] using h)]
    simp [zs]
  have hord : ∀ i j, i ≤ j → j < zs.length → zs.toArray[i]! ≤ zs.toArray[j]! := fun i j hij hj => by
    rw [hget i (by omega), hget j (by omega)]
    rcases Nat.lt_or_ge i j with q | q
    · exact List.pairwise_iff_getElem.1 hs i j (by omega) (by omega) q
    · obtain rfl : i = j := by omega
      exact List.le_refl _
  obtain ⟨f1, f2⟩ := upTo_facts zs.toArray zs.length hord zs.length (Nat.le_refl _)
  have e : cmpB S = (Lib.compactUpTo zs.toArray zs.length).map fun s => (⟨s.toArray⟩ : ByteArray) := rfl
  rw [e]
  refine ⟨List.pairwise_map.2 (f2.imp fun {a b} h => ?_), fun y => ?_⟩
  · show a.toArray.toList < b.toArray.toList
    simpa using h
  · rw [List.mem_map]
    constructor
    · rintro ⟨x, hx, rfl⟩
      obtain ⟨j, q1, rfl⟩ := (f1 x).1 hx
      rw [hget j (by omega)]
      have : (⟨S[j].data.toList.toArray⟩ : ByteArray) = S[j] := mkB_of S[j]
      rw [this]; exact List.getElem_mem _
    · intro hy
      obtain ⟨j, hj, rfl⟩ := List.getElem_of_mem hy
      exact ⟨S[j].data.toList, (f1 _).2 ⟨j, by omega, hget j hj⟩, mkB_of S[j]⟩
/-! ### a map of names -/
abbrev Mp : Type := List (ByteArray × Bool)
def addN (m : Mp) (ns : List ByteArray) : Mp := ns.foldl (fun m n => mput keq m n true) m
theorem addN_append (m : Mp) (a b : List ByteArray) : addN m (a ++ b) = addN (addN m a) b := List.foldl_append
theorem addN_pm : ∀ (L : List ByteArray) {m : Mp} {q : ByteArray → Prop} {n : Nat}, Pth.PM m q n → Pth.PM (addN m L) (fun y => y ∈ L ∨ q y) (n + L.length)
  | [], m, q, n, h => h.congr (fun y => by simp) (by simp)
  | a :: L, m, q, n, h => by
    refine (addN_pm L (h.put a true)).congr (fun y => ?_) (by simp; omega)
    rw [List.mem_cons, or_assoc]
    exact or_left_comm
theorem pm_nil : Pth.PM ([] : Mp) (fun _ => False) 0 := ⟨by simp [Pth.keysM], fun y => by simp [Pth.keysM], by simp⟩
def depS (L : List ByteArray) : List ByteArray := cmpB (L.mergeSort fun a b => decide (a.data.toList ≤ b.data.toList))
theorem mergeS_sorted (L : List ByteArray) : (L.mergeSort fun a b => decide (a.data.toList ≤ b.data.toList)).Pairwise fun a b => a.data.toList ≤ b.data.toList := by
  have := List.pairwise_mergeSort (le := fun a b : ByteArray => decide (a.data.toList ≤ b.data.toList)) (fun a b c h1 h2 => by simp only [decide_eq_true_eq] at *; exact List.le_trans h1 h2) (fun a b => by simp only [Bool.or_eq_true, decide_eq_true_eq]; exact List.le_total _ _) L
  exact this.imp fun {a b} h => by simpa using h
theorem depS_facts (L : List ByteArray) : Pth.AscS (depS L) ∧ ∀ y, y ∈ depS L ↔ y ∈ L := by
  obtain ⟨h1, h2⟩ := cmpB_facts (mergeS_sorted L)
  exact ⟨h1, fun y => (h2 y).trans (List.mergeSort_perm _ _).mem_iff⟩
theorem dep_same (L : List ByteArray) (hl : L.length ≤ 100000) (hs : ∀ y ∈ L, y.size ≤ 200) : sortedKeys (some (addN [] L)) = some (depS L) := by
  obtain ⟨r, r1, r2, r3, _⟩ := Pth.sortedKeys_spec (addN_pm L pm_nil) (by omega) (fun y hy => hs y (hy.resolve_right id))
  obtain ⟨h1, h2⟩ := depS_facts L
  rw [r1, r2.unique h1 fun y => by rw [r3, h2]; simp]
/-! ### the names on which a target depends -/
def needsC (M : List Condition) (c : Case) : List ByteArray := (condAns M c.1).1.2.1.map (·.1)
def depL (M : List Condition) (A : List Attr) : List ByteArray := A.flatMap fun a => a.2.2.2.2.2.flatMap (needsC M)
def depE (M : List Condition) : List Attr → Int
  | [] => 0
  | a :: r => if chkNames M a.2.2.2.2.2 ≠ 0 then chkNames M a.2.2.2.2.2 else depE M r
theorem loopA_prog {kk : ι → Nat} (hk : ∀ i, l i ≤ kk i) (N : List Pair) (hN : N.length ≤ 9223372036854775807) (m : Mp) {y : ι → Mp → Option R} {r : R} (hy : Ult l (fun i => y i (addN m (N.map (·.1)))) r) :
    Ult l (fun i => loopN (kk i) (fun (a12 : Int × Mp → Option R) (a13 : Int × Mp) => cnd (ilt a13.1 (len N)) (bnd (at? N a13.1) fun a14 => a12 (iadd .i64 a13.1 1, mput keq a13.2 a14.1 true)) (y i a13.2)) (0, m)) r := by
  refine Ult.forA (A := Mp) hk N.length (fun a j => ((j : Int), a)) (fun a j => a = addN m ((N.take j).map (·.1))) (fun _ _ => r) m (by rw [List.take_zero]; rfl) fun a j hj ha next => ?_
  dsimp only
  rw [iltL]
  by_cases hlt' : ¬ j < N.length
  · refine Ult.no (decide_eq_false hlt') ?_
    rw [List.take_of_length_le (by omega)] at ha
    rw [ha]; exact Ult.lift hy
  have hlt : j < N.length := Decidable.not_not.1 hlt'
  refine Ult.yes (decide_eq_true hlt) (Ult.bindc (at?_nat hlt) ?_)
  rw [isucc hlt hN]
  refine next _ hlt ?_
  rw [List.take_succ_eq_append_getElem hlt, List.map_append, addN_append, ← ha]
  rfl
theorem loopB_prog {kk : ι → Nat} (hk : ∀ i, l i ≤ kk i) (M : List Condition) (hM : ∀ m ∈ M, m.2.1.length ≤ 30) (cs : List Case) (hcs : cs.length ≤ 9223372036854775807) (m : Mp) (cf : ι → ByteArray → Option (Condition × Bool)) (hcf : ∀ n, Ult l (fun i => cf i n) (condAns M n)) {y : ι → Mp → Option R} {r : R} (hy : Ult l (fun i => y i (addN m (cs.flatMap (needsC M)))) r) :
    Ult l (fun i => loopN (kk i) (fun (a8 : Int × Mp → Option R) (a9 : Int × Mp) => cnd (ilt a9.1 (len cs)) (bnd (at? cs a9.1) fun a10 => bnd (cf i a10.1) fun a11 => loopN (kk i) (fun (a12 : Int × Mp → Option R) (a13 : Int × Mp) => cnd (ilt a13.1 (len a11.1.2.1)) (bnd (at? a11.1.2.1 a13.1) fun a14 => a12 (iadd .i64 a13.1 1, mput keq a13.2 a14.1 true)) (a8 (iadd .i64 a9.1 1, a13.2))) (0, a9.2)) (y i a9.2)) (0, m)) r := by
  refine Ult.forA (A := Mp) hk cs.length (fun a j => ((j : Int), a)) (fun a j => a = addN m ((cs.take j).flatMap (needsC M))) (fun _ _ => r) m (by rw [List.take_zero]; rfl) fun a j hj ha next => ?_
  dsimp only
  rw [iltL]
  by_cases hlt' : ¬ j < cs.length
  · refine Ult.no (decide_eq_false hlt') ?_
    rw [List.take_of_length_le (by omega)] at ha
    rw [ha]; exact Ult.lift hy
  have hlt : j < cs.length := Decidable.not_not.1 hlt'
  refine Ult.yes (decide_eq_true hlt) (Ult.bindc (at?_nat hlt) (Ult.bind (Ult.lift (hcf cs[j].1)) ?_))
  have hN : (condAns M cs[j].1).1.2.1.length ≤ 30 := by
    unfold condAns
    cases hc : condOf M cs[j].1 with
    | none => simp
    | some c => exact hM c (condOf_mem hc).1
  refine loopA_prog (l := lp l) (kk := fun p => kk p.1) (lp_le _ _ hk) _ (by omega) a (y := fun p m' => loopN p.2 _ (iadd .i64 (j : Int) 1, m')) ?_
  rw [isucc hlt hcs]
  refine next _ hlt ?_
  rw [List.take_succ_eq_append_getElem hlt, List.flatMap_append, addN_append, ← ha]
  simp [needsC]
theorem loopC_prog {kk : ι → Nat} (hk : ∀ i, l i ≤ kk i) (M : List Condition) (hM : ∀ m ∈ M, m.2.1.length ≤ 30) (A : List Attr) (hA : AttrsSz A) (cf : ι → ByteArray → Option (Condition × Bool)) (hcf : ∀ n, Ult l (fun i => cf i n) (condAns M n)) (nf : ι → V1 → Option Int) (hnf : ∀ v, v.2.2.2.2.length ≤ 9223372036854775807 → Ult l (fun i => nf i v) (chkNames M v.2.2.2.2))
    {y : ι → Mp → Option (List ByteArray × Int)} {r : List ByteArray × Int} (hy : Ult l (fun i => y i (addN [] (depL M A))) r) :
    Ult l (fun i => loopN (kk i) (fun (a4 : Int × Mp → Option (List ByteArray × Int)) (a5 : Int × Mp) => cnd (ilt a5.1 (len A)) (bnd (at? A a5.1) fun a6 => bnd (nf i (a6.2.1, a6.2.2.1, a6.2.2.2.1, a6.2.2.2.2.1, a6.2.2.2.2.2)) fun a7 => cnd (ine a7 0) (some ([], a7)) (loopN (kk i) (fun (a8 : Int × Mp → Option (List ByteArray × Int)) (a9 : Int × Mp) => cnd (ilt a9.1 (len a6.2.2.2.2.2)) (bnd (at? a6.2.2.2.2.2 a9.1) fun a10 => bnd (cf i a10.1) fun a11 => loopN (kk i) (fun (a12 : Int × Mp → Option (List ByteArray × Int)) (a13 : Int × Mp) => cnd (ilt a13.1 (len a11.1.2.1)) (bnd (at? a11.1.2.1 a13.1) fun a14 => a12 (iadd .i64 a13.1 1, mput keq a13.2 a14.1 true)) (a8 (iadd .i64 a9.1 1, a13.2))) (0, a9.2)) (a4 (iadd .i64 a5.1 1, a9.2))) (0, a5.2))) (y i a5.2)) (0, []))
      (if depE M A ≠ 0 then ([], depE M A) else r) := by
  have hl := hA.len
  refine (Ult.forA (A := Mp) hk A.length (fun a j => ((j : Int), a)) (fun a j => a = addN [] (depL M (A.take j))) (fun _ j => if depE M (A.drop j) ≠ 0 then ([], depE M (A.drop j)) else r) [] (by rw [List.take_zero]; rfl) fun a j hj ha next => ?_).eq (by rw [List.drop_zero])
  dsimp only
  rw [iltL]
  by_cases hlt' : ¬ j < A.length
  · refine Ult.no (decide_eq_false hlt') ?_
    rw [List.take_of_length_le (by omega)] at ha
    rw [ha, List.drop_eq_nil_of_le (by omega)]
    exact Ult.lift hy
  have hlt : j < A.length := Decidable.not_not.1 hlt'
  have hcl := cases_len (hA.2 _ (List.getElem_mem hlt)).2.2.2
  refine Ult.yes (decide_eq_true hlt) (Ult.bindc (at?_nat hlt) (Ult.bind (Ult.lift (hnf A[j].2 hcl)) ?_))
  rw [drop_cons hlt, depE]
  by_cases hn : chkNames M A[j].2.2.2.2.2 ≠ 0
  · rw [if_pos hn, if_pos hn]
    exact Ult.yes (by rw [ine_eq]; exact decide_eq_true hn) Ult.ret
  rw [if_neg hn]
  refine Ult.no (by rw [ine_eq]; exact decide_eq_false hn) ?_
  refine loopB_prog (l := lp l) (kk := fun p => kk p.1) (lp_le _ _ hk) M hM _ hcl a (fun p n => cf p.1 n) (fun n => Ult.lift (hcf n)) (y := fun p m' => loopN p.2 _ (iadd .i64 (j : Int) 1, m')) ?_
  rw [isucc hlt hl]
  refine next _ hlt ?_
  rw [List.take_succ_eq_append_getElem hlt]
  unfold depL at ha ⊢
  rw [List.flatMap_append, addN_append, ← ha]
  simp
end Go.Proofs.YtonfimidgbppeaaGreatDoor.Ev

namespace Go.Proofs.YtonfimidgbppeaaGreatDoor.Ev
open Go Go.RowKit
set_option linter.unusedVariables false
set_option linter.unusedSimpArgs false
variable {ι R α X : Type} {l : ι → Nat}
theorem loopA_ref {kk : ι → Nat} (hk : ∀ i, l i ≤ kk i) (N : List Pair) (acc : List ByteArray) (hN : acc.length + N.length ≤ 1000000) {y : ι → List ByteArray → Option R} {r : R} (hy : Ult l (fun i => y i (acc ++ N.map (·.1))) r) :
    Ult l (fun i => loopN (kk i) (fun (a12 : List ByteArray × Int → Option R) (a13 : List ByteArray × Int) => cnd (ilt a13.2 (len N)) (bnd (at? N a13.2) fun a14 => bnd (app? 16 a13.1 (a14.1 :: [])) fun a15 => a12 (a15, iadd .i64 a13.2 1)) (y i a13.1)) (acc, 0)) r := by
  refine Ult.forA (A := List ByteArray) hk N.length (fun a j => (a, (j : Int))) (fun a j => a = acc ++ (N.take j).map (·.1)) (fun _ _ => r) acc (by rw [List.take_zero]; simp) fun a j hj ha next => ?_
  dsimp only
  rw [iltL]
  by_cases hlt' : ¬ j < N.length
  · refine Ult.no (decide_eq_false hlt') ?_
    rw [List.take_of_length_le (by omega)] at ha
    rw [ha]; exact Ult.lift hy
  have hlt : j < N.length := Decidable.not_not.1 hlt'
  refine Ult.yes (decide_eq_true hlt) (Ult.bindc (at?_nat hlt) ?_)
  rw [isucc hlt (by omega)]
  refine Ult.bindc (app?_ok (by subst ha; simp only [List.length_append, List.length_map, List.length_take, List.length_cons, List.length_nil]; show _ * 16 ≤ _; omega)) (next _ hlt ?_)
  rw [List.take_succ_eq_append_getElem hlt, List.map_append, ← List.append_assoc, ← ha]
  rfl
theorem needs_len {M : List Condition} (hM : ∀ m ∈ M, m.2.1.length ≤ 30) (n : ByteArray) : (condAns M n).1.2.1.length ≤ 30 := by
  unfold condAns
  cases hc : condOf M n with
  | none => simp
  | some c => exact hM c (condOf_mem hc).1
theorem flat_len {β γ : Type} (f : β → List γ) (k : Nat) : ∀ L : List β, (∀ b ∈ L, (f b).length ≤ k) → (L.flatMap f).length ≤ L.length * k
  | [], _ => by simp
  | b :: L, h => by
    rw [List.flatMap_cons, List.length_append, List.length_cons]
    have h1 := h b (by simp)
    have h2 := flat_len f k L fun c hc => h c (by simp [hc])
    rw [Nat.add_mul, Nat.one_mul]; omega
theorem needsC_len {M : List Condition} (hM : ∀ m ∈ M, m.2.1.length ≤ 30) (cs : List Case) : (cs.flatMap (needsC M)).length ≤ cs.length * 30 := flat_len _ 30 cs fun c _ => by
  unfold needsC
  rw [List.length_map]; exact needs_len hM c.1
theorem loopB_ref {kk : ι → Nat} (hk : ∀ i, l i ≤ kk i) (M : List Condition) (hM : ∀ m ∈ M, m.2.1.length ≤ 30) (cs : List Case) (acc : List ByteArray) (hcs : acc.length + cs.length * 30 ≤ 1000000) (cf : ι → ByteArray → Option (Condition × Bool)) (hcf : ∀ n, Ult l (fun i => cf i n) (condAns M n)) {y : ι → List ByteArray → Option R} {r : R} (hy : Ult l (fun i => y i (acc ++ cs.flatMap (needsC M))) r) :
    Ult l (fun i => loopN (kk i) (fun (a8 : List ByteArray × Int → Option R) (a9 : List ByteArray × Int) => cnd (ilt a9.2 (len cs)) (bnd (at? cs a9.2) fun a10 => bnd (cf i a10.1) fun a11 => loopN (kk i) (fun (a12 : List ByteArray × Int → Option R) (a13 : List ByteArray × Int) => cnd (ilt a13.2 (len a11.1.2.1)) (bnd (at? a11.1.2.1 a13.2) fun a14 => bnd (app? 16 a13.1 (a14.1 :: [])) fun a15 => a12 (a15, iadd .i64 a13.2 1)) (a8 (a13.1, iadd .i64 a9.2 1))) (a9.1, 0)) (y i a9.1)) (acc, 0)) r := by
  refine Ult.forA (A := List ByteArray) hk cs.length (fun a j => (a, (j : Int))) (fun a j => a = acc ++ (cs.take j).flatMap (needsC M)) (fun _ _ => r) acc (by rw [List.take_zero]; simp) fun a j hj ha next => ?_
  dsimp only
  rw [iltL]
  by_cases hlt' : ¬ j < cs.length
  · refine Ult.no (decide_eq_false hlt') ?_
    rw [List.take_of_length_le (by omega)] at ha
    rw [ha]; exact Ult.lift hy
  have hlt : j < cs.length := Decidable.not_not.1 hlt'
  refine Ult.yes (decide_eq_true hlt) (Ult.bindc (at?_nat hlt) (Ult.bind (Ult.lift (hcf cs[j].1)) ?_))
  have hN := needs_len hM cs[j].1
  have hal : a.length ≤ acc.length + j * 30 := by
    have := needsC_len hM (cs.take j)
    rw [ha, List.length_append]
    rw [List.length_take] at this
    have : min j cs.length = j := by omega
    rw [this] at *
    omega
  have hjm : j * 30 + 30 ≤ cs.length * 30 := by omega
  refine loopA_ref (l := lp l) (kk := fun p => kk p.1) (lp_le _ _ hk) _ a (by omega) (y := fun p m' => loopN p.2 _ (m', iadd .i64 (j : Int) 1)) ?_
  rw [isucc hlt (by omega)]
  refine next _ hlt ?_
  rw [List.take_succ_eq_append_getElem hlt, List.flatMap_append, ← List.append_assoc, ← ha]
  simp [needsC]
theorem depL_len {M : List Condition} (hM : ∀ m ∈ M, m.2.1.length ≤ 30) {A : List Attr} (hA : ∀ a ∈ A, a.2.2.2.2.2.length ≤ 50) : (depL M A).length ≤ A.length * 1500 := flat_len _ 1500 A fun a ha => by
  have := needsC_len hM a.2.2.2.2.2
  have := hA a ha
  omega
theorem loopC_ref {kk : ι → Nat} (hk : ∀ i, l i ≤ kk i) (M : List Condition) (hM : ∀ m ∈ M, m.2.1.length ≤ 30) (A : List Attr) (hA : ∀ a ∈ A, a.2.2.2.2.2.length ≤ 50) (hl : A.length ≤ 30) (cf : ι → ByteArray → Option (Condition × Bool)) (hcf : ∀ n, Ult l (fun i => cf i n) (condAns M n)) (nf : ι → V1 → Option Int) (hnf : ∀ v, v.2.2.2.2.length ≤ 9223372036854775807 → Ult l (fun i => nf i v) (chkNames M v.2.2.2.2))
    {y : ι → List ByteArray → Option (List ByteArray × Int)} {r : List ByteArray × Int} (hy : Ult l (fun i => y i (depL M A)) r) :
    Ult l (fun i => loopN (kk i) (fun (a4 : List ByteArray × Int → Option (List ByteArray × Int)) (a5 : List ByteArray × Int) => cnd (ilt a5.2 (len A)) (bnd (at? A a5.2) fun a6 => bnd (nf i (a6.2.1, a6.2.2.1, a6.2.2.2.1, a6.2.2.2.2.1, a6.2.2.2.2.2)) fun a7 => cnd (ine a7 0) (some ([], a7)) (loopN (kk i) (fun (a8 : List ByteArray × Int → Option (List ByteArray × Int)) (a9 : List ByteArray × Int) => cnd (ilt a9.2 (len a6.2.2.2.2.2)) (bnd (at? a6.2.2.2.2.2 a9.2) fun a10 => bnd (cf i a10.1) fun a11 => loopN (kk i) (fun (a12 : List ByteArray × Int → Option (List ByteArray × Int)) (a13 : List ByteArray × Int) => cnd (ilt a13.2 (len a11.1.2.1)) (bnd (at? a11.1.2.1 a13.2) fun a14 => bnd (app? 16 a13.1 (a14.1 :: [])) fun a15 => a12 (a15, iadd .i64 a13.2 1)) (a8 (a13.1, iadd .i64 a9.2 1))) (a9.1, 0)) (a4 (a9.1, iadd .i64 a5.2 1))) (a5.1, 0))) (y i a5.1)) ([], 0))
      (if depE M A ≠ 0 then ([], depE M A) else r) := by
  refine (Ult.forA (A := List ByteArray) hk A.length (fun a j => (a, (j : Int))) (fun a j => a = depL M (A.take j)) (fun _ j => if depE M (A.drop j) ≠ 0 then ([], depE M (A.drop j)) else r) [] (by rw [List.take_zero]; rfl) fun a j hj ha next => ?_).eq (by rw [List.drop_zero])
  dsimp only
  rw [iltL]
  by_cases hlt' : ¬ j < A.length
  · refine Ult.no (decide_eq_false hlt') ?_
    rw [List.take_of_length_le (by omega)] at ha
    rw [ha, List.drop_eq_nil_of_le (by omega)]
    exact Ult.lift hy
  have hlt : j < A.length := Decidable.not_not.1 hlt'
  have hcl := hA _ (List.getElem_mem hlt)
  refine Ult.yes (decide_eq_true hlt) (Ult.bindc (at?_nat hlt) (Ult.bind (Ult.lift (hnf A[j].2 (by omega))) ?_))
  rw [drop_cons hlt, depE]
  by_cases hn : chkNames M A[j].2.2.2.2.2 ≠ 0
  · rw [if_pos hn, if_pos hn]
    exact Ult.yes (by rw [ine_eq]; exact decide_eq_true hn) Ult.ret
  rw [if_neg hn]
  refine Ult.no (by rw [ine_eq]; exact decide_eq_false hn) ?_
  have hal : a.length ≤ 45000 := by
    have := depL_len hM (A := A.take j) fun a ha => hA a (List.mem_of_mem_take ha)
    rw [List.length_take] at this
    rw [ha]
    have : min j A.length ≤ 30 := by omega
    omega
  refine loopB_ref (l := lp l) (kk := fun p => kk p.1) (lp_le _ _ hk) M hM _ a (by omega) (fun p n => cf p.1 n) (fun n => Ult.lift (hcf n)) (y := fun p m' => loopN p.2 _ (m', iadd .i64 (j : Int) 1)) ?_
  rw [isucc hlt (by omega)]
  refine next _ hlt ?_
  rw [List.take_succ_eq_append_getElem hlt]
  unfold depL at ha ⊢
  rw [List.flatMap_append, ← ha]
  simp
/-! ### right conditions are small -/
theorem chkConds_small {L : List Setting} : ∀ {M : List Condition} {prev : Option ByteArray}, chkConds L prev M = 0 → ∀ m ∈ M, m.2.1.length ≤ 30
  | [], _, _, m, hm => by cases hm
  | a :: M, prev, h, m, hm => by
    rw [chkConds] at h
    split at h
    · cases h
    split at h
    · cases h
    rename_i h2
    split at h
    · cases h
    split at h
    · rename_i q; exact absurd h q
    split at h
    · rename_i q; exact absurd h q
    split at h
    · cases h
    rcases List.mem_cons.1 hm with rfl | hm
    · omega
    · exact chkConds_small h m hm
theorem conds_small {L : List Setting} {M : List Condition} (h : chkConditions L M = 0) : ∀ m ∈ M, m.2.1.length ≤ 30 := by
  unfold chkConditions at h
  split at h
  · rename_i q; exact absurd h q
  split at h
  · cases h
  exact chkConds_small h
theorem dep_small {L : List Setting} {M : List Condition} (h : CondsOk L M) {A : List Attr} : ∀ y ∈ depL M A, y.size ≤ 200 := fun y hy => by
  unfold depL at hy
  obtain ⟨a, _, hy⟩ := List.mem_flatMap.1 hy
  obtain ⟨c, _, hy⟩ := List.mem_flatMap.1 hy
  unfold needsC condAns at hy
  cases hc : condOf M c.1 with
  | none => rw [hc] at hy; simp at hy
  | some m =>
    rw [hc] at hy
    obtain ⟨n, hn, rfl⟩ := List.mem_map.1 hy
    have := isWord_size ((cfg_words h.set (h.each m (condOf_mem hc).1).2 n hn).1)
    omega
/-! ### Depends -/
def depAns (x : CWorld) (t : Target) : List ByteArray × Int := if chkConditions x.1 x.2.1 ≠ 0 then ([], chkConditions x.1 x.2.1) else if chkTarget t ≠ 0 then ([], chkTarget t) else if depE x.2.1 t.2.2 ≠ 0 then ([], depE x.2.1 t.2.2) else (depS (depL x.2.1 t.2.2), 0)
theorem attrs_small {t : Target} (h : chkTarget t = 0) : ∀ a ∈ t.2.2, a.2.2.2.2.2.length ≤ 50 := fun a ha => (chk1_zero ((chkTarget_zero h).2 a ha)).2.2
theorem dep_len {x : CWorld} {t : Target} (h1 : chkConditions x.1 x.2.1 = 0) (h2 : chkTarget t = 0) : (depL x.2.1 t.2.2).length ≤ 45000 := by
  have := depL_len (conds_small h1) (attrs_small h2)
  have := (chkTarget_zero h2).1
  omega
theorem dep_prog (x : CWorld) (t : Target) (hx : WorldSz x) (ht : TgtSz t) : Ultk (fun k => S24 k (x, t, ())) (depAns x t) := by
  unfold S24 depAns
  refine Ult.bind (S54_spec x.1 x.2.1 hx.1 hx.2.1) (Ult.ifS (ine_eq _ _) (fun _ => Ult.ret) fun h1 => ?_)
  refine Ult.bind (target_prog t ht) (Ult.ifS (ine_eq _ _) (fun _ => Ult.ret) fun h2 => ?_)
  have h1 := Decidable.not_not.1 h1
  have h2 := Decidable.not_not.1 h2
  have hM : x.2.1.length ≤ 9223372036854775807 := by have := len_big hx.2.1.1 (by omega); omega
  refine loopC_prog (l := fun k : Nat => k) (kk := fun k => k) (fun _ => Nat.le_refl _) x.2.1 (conds_small h1) t.2.2 ht.2.2 (fun k n => S56 k (x.2.1, n, ())) (fun n => condOf_prog x.2.1 n hM) (fun k v => S55 k (x.2.1, v, ())) (fun v hv => names_prog x.2.1 v hM hv)
    (y := fun k m => bnd (S58 k (m, ())) fun a6 => bnd (S57 k (a6, ())) fun a7 => some (a7, 0)) ?_
  have e := dep_same (depL x.2.1 t.2.2) (by have := dep_len h1 h2; omega) (dep_small (CondsOk.of h1))
  exact Ult.bind (a := some (addN [] (depL x.2.1 t.2.2))) ⟨0, fun _ _ => rfl⟩ (Ult.bind (a := depS (depL x.2.1 t.2.2)) ⟨0, fun _ _ => e⟩ Ult.ret)
theorem dep_ref (x : CWorld) (t : Target) (hx : WorldSz x) (ht : TgtSz t) (hn : t.1.size < 4294967281) : Ultk (fun k => S19 k (x, t, ())) (depAns x t) := by
  unfold S19 depAns
  refine Ult.bind (S46_spec x.1 x.2.1 hx.1 hx.2.1) (Ult.ifS (ine_eq _ _) (fun _ => Ult.ret) fun h1 => ?_)
  refine Ult.bind (target_ref t ht hn) (Ult.ifS (ine_eq _ _) (fun _ => Ult.ret) fun h2 => ?_)
  have h1 := Decidable.not_not.1 h1
  have h2 := Decidable.not_not.1 h2
  have hM : x.2.1.length ≤ 9223372036854775807 := by have := len_big hx.2.1.1 (by omega); omega
  have hdl := dep_len h1 h2
  refine loopC_ref (l := fun k : Nat => k) (kk := fun k => k) (fun _ => Nat.le_refl _) x.2.1 (conds_small h1) t.2.2 (attrs_small h2) (chkTarget_zero h2).1 (fun k n => S48 k (x.2.1, n, ())) (fun n => condOf_ref x.2.1 n hM) (fun k v => S47 k (x, v, ())) (fun v hv => names_ref x v hM hv)
    (y := fun k m => bnd (S49 k m []) fun a6 => bnd (S50 k (a6, ())) fun a7 => some (a7, 0)) ?_
  refine Ult.bind (a := (depL x.2.1 t.2.2).mergeSort fun a b => decide (a.data.toList ≤ b.data.toList)) ⟨0, fun _ _ => ?_⟩ (Ult.bind (a := depS (depL x.2.1 t.2.2)) ⟨0, fun _ _ => ?_⟩ Ult.ret)
  · show sortStr (depL x.2.1 t.2.2) = _
    unfold sortStr
    rw [if_pos (by omega)]
  · show (if _ then _ else _) = _
    rw [if_pos (by rw [List.length_mergeSort]; omega)]
    rfl
/-! ### Plain -/
abbrev zT : Target := (⟨#[]⟩, ⟨#[]⟩, [])
def plainGo (x : CWorld) (C : List Pair) (p : Platform) (n kd : ByteArray) : List Attr → List Attr → Target × ByteArray × Int
  | acc, [] => ((n, kd, acc), ⟨#[]⟩, 0)
  | acc, a :: r => if (chosenA x a.2 C p).2 ≠ 0 then (zT, a.1, (chosenA x a.2 C p).2) else plainGo x C p n kd (acc ++ [(a.1, upv (chosenA x a.2 C p).1)]) r
theorem plain_loop {kk : ι → Nat} (hk : ∀ i, l i ≤ kk i) (x : CWorld) (C : List Pair) (p : Platform) (n kd : ByteArray) (A : List Attr) (hl : A.length ≤ 30) (cf : ι → V1 → Option (V1 × Int)) (hcf : ∀ a ∈ A, Ult l (fun i => cf i a.2) (upA (chosenA x a.2 C p))) :
    Ult l (fun i => loopN (kk i) (fun (a4 : Int × ByteArray × ByteArray × List Attr × ByteArray × ByteArray × List Attr → Option (Target × ByteArray × Int)) (a5 : Int × ByteArray × ByteArray × List Attr × ByteArray × ByteArray × List Attr) => cnd (ilt a5.1 (len A)) (bnd (at? A a5.1) fun a6 => bnd (cf i (a6.2.1, a6.2.2.1, a6.2.2.2.1, a6.2.2.2.2.1, a6.2.2.2.2.2)) fun a7 => cnd (ine a7.2 0) (some ((⟨#[]⟩, ⟨#[]⟩, []), a6.1, a7.2)) (bnd (app? 96 a5.2.2.2.2.2.2 ((a6.1, a7.1.1, a7.1.2.1, a7.1.2.2.1, a7.1.2.2.2.1, a7.1.2.2.2.2) :: [])) fun a8 => a4 (iadd .i64 a5.1 1, a5.2.1, a5.2.2.1, a5.2.2.2.1, a5.2.2.2.2.1, a5.2.2.2.2.2.1, a8)))
      (some ((a5.2.2.2.2.1, a5.2.2.2.2.2.1, a5.2.2.2.2.2.2), ⟨#[]⟩, 0))) (0, ⟨#[]⟩, ⟨#[]⟩, [], n, kd, [])) (plainGo x C p n kd [] A) := by
  refine (Ult.forA (A := List Attr) hk A.length (fun a j => ((j : Int), (⟨#[]⟩ : ByteArray), (⟨#[]⟩ : ByteArray), ([] : List Attr), n, kd, a)) (fun a j => a.length = j) (fun a j => plainGo x C p n kd a (A.drop j)) [] rfl fun a j hj ha next => ?_).eq (by rw [List.drop_zero])
  dsimp only
  rw [iltL]
  by_cases hlt' : ¬ j < A.length
  · refine Ult.no (decide_eq_false hlt') (Ult.ret.eq ?_)
    rw [List.drop_eq_nil_of_le (by omega)]; rfl
  have hlt : j < A.length := Decidable.not_not.1 hlt'
  refine Ult.yes (decide_eq_true hlt) (Ult.bindc (at?_nat hlt) (Ult.bind (Ult.lift (hcf _ (List.getElem_mem hlt))) ?_))
  rw [drop_cons hlt, plainGo]
  by_cases h : (chosenA x A[j].2 C p).2 ≠ 0
  · rw [if_pos h]
    exact Ult.yes (by rw [ine_eq]; exact decide_eq_true h) Ult.ret
  rw [if_neg h]
  refine Ult.no (by rw [ine_eq]; exact decide_eq_false h) (Ult.bindc (app?_ok (by simp only [List.length_cons, List.length_nil]; show _ * 96 ≤ _; omega)) ?_)
  rw [isucc hlt (by omega)]
  exact next _ hlt (by simp [ha])
theorem ask_ref (x : CWorld) (C : List Pair) (p : Platform) (hx : WorldSz x) (hC : PairSz C) (hp : PlatSz [p]) : Ultk (fun k => S32 k (x, C, p, ())) (chkAsk x C p) := by
  unfold S32 chkAsk
  have := hC.1
  refine Ult.bind (S46_spec x.1 x.2.1 hx.1 hx.2.1) (Ult.ifS (ine_eq _ _) (fun _ => Ult.ret) fun _ => ?_)
  refine Ult.bind (S65_spec x.1 C hx.1 (by have := hC.len; omega)) (Ult.ifS (ine_eq _ _) (fun _ => Ult.ret) fun _ => ?_)
  exact Ult.bind (S66_spec [p] hp) Ult.ret
def plainAns (x : CWorld) (t : Target) (C : List Pair) (p : Platform) : Target × ByteArray × Int := if chkAsk x C p ≠ 0 then (zT, ⟨#[]⟩, chkAsk x C p) else if chkTarget t ≠ 0 then (zT, ⟨#[]⟩, chkTarget t) else plainGo x C p t.1 t.2.1 [] t.2.2
structure PlIn (x : CWorld) (t : Target) (C : List Pair) (p : Platform) : Prop where
  wx : WorldSz x
  wt : TgtSz t
  wc : PairSz C
  p1 : p.1.size ≤ 140737488351232
  p2 : PairSz p.2
theorem PlIn.chin {x : CWorld} {t : Target} {C : List Pair} {p : Platform} (h : PlIn x t C p) (h1 : chkAsk x C p = 0) (h2 : chkTarget t = 0) {a : Attr} (ha : a ∈ t.2.2) : ChIn x a.2 C p := ⟨h.wx, (h.wt.2.2.2 a ha).2, h.wc, h.p2, CondsOk.of (ask_zero h1), (chkTarget_zero h2).2 a ha⟩
theorem plain_prog (x : CWorld) (t : Target) (C : List Pair) (p : Platform) (h : PlIn x t C p) : Ultk (fun k => S22 k (x, t, C, p, ())) (plainAns x t C p) := by
  unfold S22 plainAns
  refine Ult.bind (ask_prog x C p h.wx h.wc (PlatSz.one' h.p1 h.p2)) (Ult.ifS (ine_eq _ _) (fun _ => Ult.ret) fun h1 => ?_)
  refine Ult.bind (target_prog t h.wt) (Ult.ifS (ine_eq _ _) (fun _ => Ult.ret) fun h2 => ?_)
  have h1 := Decidable.not_not.1 h1
  have h2 := Decidable.not_not.1 h2
  exact plain_loop (l := fun k : Nat => k) (kk := fun k => k) (fun _ => Nat.le_refl _) x C p t.1 t.2.1 t.2.2 (chkTarget_zero h2).1 (fun k v => S41 k (x, v, C, p, ())) fun a ha => chosen_prog x a.2 C p (h.chin h1 h2 ha)
theorem plain_ref (x : CWorld) (t : Target) (C : List Pair) (p : Platform) (h : PlIn x t C p) (hn : t.1.size < 4294967281) : Ultk (fun k => S18 k (x, t, C, p, ())) (plainAns x t C p) := by
  unfold S18 plainAns
  refine Ult.bind (ask_ref x C p h.wx h.wc (PlatSz.one' h.p1 h.p2)) (Ult.ifS (ine_eq _ _) (fun _ => Ult.ret) fun h1 => ?_)
  refine Ult.bind (target_ref t h.wt hn) (Ult.ifS (ine_eq _ _) (fun _ => Ult.ret) fun h2 => ?_)
  have h1 := Decidable.not_not.1 h1
  have h2 := Decidable.not_not.1 h2
  exact plain_loop (l := fun k : Nat => k) (kk := fun k => k) (fun _ => Nat.le_refl _) x C p t.1 t.2.1 t.2.2 (chkTarget_zero h2).1 (fun k v => S33 k (x, v, C, p, ())) fun a ha => chosen_ref x a.2 C p (h.chin h1 h2 ha)
/-- what Plain gives has values without cases -/
def FlatT (t : Target) : Prop := t.2.2.length ≤ 30 ∧ ∀ a ∈ t.2.2, StrsSz a.2.2.2.2.1 ∧ a.2.2.2.2.2 = []
theorem go_flat {x : CWorld} {C : List Pair} {p : Platform} {n kd : ByteArray} : ∀ (A acc : List Attr), acc.length + A.length ≤ 30 → (∀ a ∈ acc, StrsSz a.2.2.2.2.1 ∧ a.2.2.2.2.2 = []) → (∀ a ∈ A, Flat (chosenA x a.2 C p).1) → FlatT (plainGo x C p n kd acc A).1
  | [], acc, hl, ha, _ => ⟨(show acc.length ≤ 30 from by simpa using hl), ha⟩
  | a :: A, acc, hl, ha, hA => by
    rw [plainGo]
    split
    · exact ⟨by simp, fun b hb => by cases hb⟩
    · refine go_flat A _ (by simp at hl ⊢; omega) (fun b hb => ?_) fun b hb => hA b (by simp [hb])
      rcases List.mem_append.1 hb with q | q
      · exact ha b q
      · rw [List.mem_singleton.1 q]
        exact ⟨(hA a (by simp)).1, rfl⟩
theorem plain_flat {x : CWorld} {t : Target} {C : List Pair} {p : Platform} (h : PlIn x t C p) : FlatT (plainAns x t C p).1 := by
  have z : FlatT zT := ⟨by simp, fun b hb => by cases hb⟩
  unfold plainAns
  split
  · exact z
  rename_i h1
  split
  · exact z
  rename_i h2
  have h1 := Decidable.not_not.1 h1
  have h2 := Decidable.not_not.1 h2
  exact go_flat _ _ (by simpa using (chkTarget_zero h2).1) (fun a ha => by cases ha) fun a ha => chosen_flat (h.chin h1 h2 ha)
theorem pick_text {M : Nat} {W : List Condition} {v0 : V0} (h0 : v0.2.1.size ≤ M) : ∀ (S : List (Case × Condition)) (same : Bool) (j : Nat), (∀ s ∈ S, s.1.2.2.1.size ≤ M) → (pickA W v0 same j S).1.2.1.size ≤ M
  | [], same, j, _ => by
    rw [pickA]
    split
    · exact h0
    · exact Nat.zero_le _
  | s :: r, same, j, hS => by
    rw [pickA]
    split
    · exact hS s (by simp)
    · exact pick_text h0 r _ _ fun t ht => hS t (by simp [ht])
theorem chosen_text {M : Nat} {x : CWorld} {v : V1} {C : List Pair} {p : Platform} (h1 : v.2.1.size ≤ M) (h2 : ∀ c ∈ v.2.2.2.2, c.2.2.1.size ≤ M) : (chosenA x v C p).1.2.1.size ≤ M := by
  unfold chosenA
  split
  · exact h1
  split
  · exact Nat.zero_le _
  unfold firstA
  cases hh : held x C p v.2.2.2.2 with
  | nil =>
    dsimp only
    cases hf : v.2.2.2.2.find? (fun c : Case => decide (c.1 = dflt)) with
    | none => exact Nat.zero_le _
    | some c => exact h2 c (List.mem_of_find?_eq_some hf)
  | cons s r =>
    have hm : ∀ t ∈ s :: r, t.1.2.2.1.size ≤ M := fun t ht => h2 _ (held_mem (by rw [hh]; exact ht)).1
    exact pick_text (hm s (by simp)) (s :: r) _ _ hm
theorem go_text {M : Nat} {x : CWorld} {C : List Pair} {p : Platform} {n kd : ByteArray} : ∀ (A acc : List Attr), (∀ a ∈ acc, a.2.2.1.size ≤ M) → (∀ a ∈ A, (chosenA x a.2 C p).1.2.1.size ≤ M) → ∀ a ∈ (plainGo x C p n kd acc A).1.2.2, a.2.2.1.size ≤ M
  | [], acc, ha, _ => ha
  | a :: A, acc, ha, hA => by
    rw [plainGo]
    split
    · exact fun b hb => by cases hb
    · refine go_text A _ (fun b hb => ?_) fun b hb => hA b (by simp [hb])
      rcases List.mem_append.1 hb with q | q
      · exact ha b q
      · rw [List.mem_singleton.1 q]
        exact hA a (by simp)
theorem plain_text {x : CWorld} {t : Target} {C : List Pair} {p : Platform} (h : PlIn x t C p) : ∀ a ∈ (plainAns x t C p).1.2.2, a.2.2.1.size ≤ 140737488351232 := by
  unfold plainAns
  split
  · exact fun b hb => by cases hb
  split
  · exact fun b hb => by cases hb
  exact go_text _ _ (fun b hb => by cases hb) fun a ha => chosen_text (h.wt.2.2.2 a ha).2.1 fun c hc => ((h.wt.2.2.2 a ha).2.2.2.2 c hc).2.1
theorem depAns_len (x : CWorld) (t : Target) : (depAns x t).1.length ≤ 9223372036854775807 := by
  unfold depAns
  split
  · simp
  rename_i h1
  split
  · simp
  rename_i h2
  split
  · simp
  have := dep_len (Decidable.not_not.1 h1) (Decidable.not_not.1 h2)
  have h3 : (depS (depL x.2.1 t.2.2)).length ≤ (depL x.2.1 t.2.2).length := by
    unfold depS cmpB
    rw [List.length_map]
    refine Nat.le_trans (compact_len _) ?_
    rw [List.length_map, List.length_mergeSort]
    exact Nat.le_refl _
  show (depS (depL x.2.1 t.2.2)).length ≤ _
  omega
end Go.Proofs.YtonfimidgbppeaaGreatDoor.Ev

namespace Go.Proofs.YtonfimidgbppeaaGreatDoor.Ev
open Go Go.RowKit
set_option linter.unusedVariables false
set_option linter.unusedSimpArgs false
theorem pairSz_of {L : List Pair} (h : WfS 32 (fun x : Pair => x.1.size ≤ 140737488351232 ∧ x.2.size ≤ 140737488351232) L) : PairSz L := ⟨h.2.1, h.2.2⟩
theorem strsSz_of {L : List ByteArray} (h : WfS 16 (fun s : ByteArray => s.size ≤ 140737488351232) L) : StrsSz L := ⟨h.2.1, h.2.2⟩
theorem ConfigPlainMatchesSpecUptoPure : ConfigPlainMatchesSpecUptoStated := by
  intro W t C p hW ht hC hp hb
  have hn : t.1.size < 4294967281 := by
    have e : kbulk (.agg (.pair .str (.pair .str (.slice (.agg (.pair .str KV1)))))) t = (t.1.size + 1) + ((t.2.1.size + 1) + ((t.2.2.map fun x => kbulk (.agg (.pair .str KV1)) x).sum + 1)) + 1 := rfl
    have : kbulk (.agg (.pair .str (.pair .str (.slice (.agg (.pair .str KV1)))))) t ≤ 1048576 := Nat.le_trans (Nat.le_trans (Nat.le_add_left _ _) (Nat.le_trans (Nat.le_add_right _ _) (Nat.le_add_right _ _))) hb
    omega
  clear hb
  obtain ⟨a, b, c, d, e⟩ := W
  obtain ⟨ha, hb, hc, hd, he⟩ := hW
  dsimp only at ha hb hc hd he
  have ha : SetSz a := ⟨ha.2.1, fun s hs => ⟨(ha.2.2 s hs).1, (ha.2.2 s hs).2.2.1, (ha.2.2 s hs).2.2.2⟩⟩
  have hb : CondSz b := ⟨hb.2.1, fun s hs => ⟨(hb.2.2 s hs).1, pairSz_of (hb.2.2 s hs).2.1, pairSz_of (hb.2.2 s hs).2.2⟩⟩
  have hc : PlatSz c := ⟨hc.2.1, fun s hs => ⟨(hc.2.2 s hs).1, pairSz_of (hc.2.2 s hs).2⟩⟩
  have hd : ToolSz d := ⟨hd.2.1, fun s hs => ⟨(hd.2.2 s hs).1, (hd.2.2 s hs).2.1, pairSz_of (hd.2.2 s hs).2.2.1, pairSz_of (hd.2.2 s hs).2.2.2⟩⟩
  have he : TranSz e := ⟨he.2.1, fun s hs => ⟨(he.2.2 s hs).1, pairSz_of (he.2.2 s hs).2.1, strsSz_of (he.2.2 s hs).2.2⟩⟩
  have hx : WorldSz (a, b, c, d, e) := ⟨ha, hb, hc, hd, he⟩
  obtain ⟨t1, t2, t3⟩ := ht
  have ht : TgtSz t := ⟨t1, t2, t3.2.1, fun q hq => by
    obtain ⟨q1, hv⟩ := t3.2.2 q hq
    exact ⟨q1, hv.2.1, strsSz_of hv.2.2.2.1, hv.2.2.2.2.2.1, fun c hc => by
      have := hv.2.2.2.2.2.2 c hc
      exact ⟨this.1, this.2.2.1, strsSz_of this.2.2.2.2.1⟩⟩⟩
  have hC := pairSz_of hC
  obtain ⟨p1, p2⟩ := hp
  have p2 := pairSz_of p2
  have lC := hC.len
  have hin : PlIn (a, b, c, d, e) t C p := ⟨hx, ht, hC, p1, p2⟩
  have wk := S17_spec
  have fl := plain_flat hin
  have same : Ultk (fun k => S23 k ((plainAns (a, b, c, d, e) t C p).1, (plainAns (a, b, c, d, e) t C p).1, ())) true := sameT_self _ (by have := fl.1; omega) fun q hq => by
    obtain ⟨f1, f2⟩ := fl.2 q hq
    have sz : V1Sz q.2 := ⟨(plain_text hin q hq), f1, by rw [f2]; simp, fun z hz => by rw [f2] at hz; cases hz⟩
    exact ⟨sz, fun z hz => by rw [f2] at hz; cases hz⟩
  refine Ultk.some ?_
  unfold S4
  dsimp only
  refine Ult.bind (S6_spec (a, b, c, d, e) hx) (Ult.bind (S7_spec C (by have := hC.1; omega)) (Ult.bind (S8_spec p p2) ?_))
  refine Ult.bind (plain_ref (a, b, c, d, e) t C p hin hn) (Ult.bind (dep_ref (a, b, c, d, e) t hx ht hn) (Ult.bind (target_ref t ht hn) ?_))
  have ends : ∀ {F : Nat → Option Bool}, Ultk F true → Ultk (fun k => bnd (S22 k ((a, b, c, d, e), t, C, p, ())) fun a9 => cnd (ine a9.2.2 (plainAns (a, b, c, d, e) t C p).2.2) (some false) (cnd (sne a9.2.1 (plainAns (a, b, c, d, e) t C p).2.1) (some false) (bnd (S23 k (a9.1, (plainAns (a, b, c, d, e) t C p).1, ())) fun a10 => cnd (bnot a10) (some false) (bnd (S24 k ((a, b, c, d, e), t, ())) fun a11 => cnd (ieq a11.2 (depAns (a, b, c, d, e) t).2) (bnd (S25 k (a11.1, (depAns (a, b, c, d, e) t).1, ())) fun a12 => cnd a12 (bnd (S14 k ((a, b, c, d, e), (a, b, c, d, e), ())) fun a13 => cnd a13 (bnd (S15 k (C, C, ())) fun a14 => cnd a14 (bnd (S16 k (p, p, ())) fun a15 => cnd a15 (F k) (some false)) (some false)) (some false)) (some false)) (some false))))) true := fun hF => by
    refine Ult.bind (plain_prog (a, b, c, d, e) t C p hin) (Ult.no (by rw [ine_eq]; simp) (Ult.no (by rw [sne_eq]; simp) (Ult.bind same (Ult.no rfl (Ult.bind (dep_prog (a, b, c, d, e) t hx ht) (Ult.yes (by rw [ieq_eq]; simp) (Ult.bind (S25_self _ (depAns_len _ _)) (Ult.yes rfl ?_))))))))
    exact Ult.bind (S14_self (a, b, c, d, e) hx) (Ult.yes rfl (Ult.bind (S15_self C (by omega)) (Ult.yes rfl (Ult.bind (S16_self p p2) (Ult.yes rfl hF)))))
  by_cases h0 : chkTarget t = 0
  · obtain ⟨c1, c2⟩ := chkTarget_zero h0
    refine Ult.yes (by rw [ieq_eq]; exact decide_eq_true h0) (Ult.bind (copyT_spec t ht h0) ?_)
    refine ends ?_
    refine Ult.no (by rw [ine_eq]; exact decide_eq_false (fun q => q h0)) ?_
    exact Ult.bind (sameT_self t (by omega) fun q hq => ⟨(ht.2.2.2 q hq).2, flat_cases (c2 q hq)⟩) (Ult.yes rfl (Ult.bind wk Ult.ret))
  · refine Ult.no (by rw [ieq_eq]; exact decide_eq_false h0) ?_
    refine ends ?_
    exact Ult.yes (by rw [ine_eq]; exact decide_eq_true h0) (Ult.bind wk Ult.ret)
end Go.Proofs.YtonfimidgbppeaaGreatDoor.Ev
