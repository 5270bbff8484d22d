/- Laws of Config: pairs are checked, values are looked up (this session's own). No condition but those in the statements. -/
import Derived.Test.YtklmkonpilkfnaaDoorPcC
namespace Go.Proofs.YtklmkonpilkfnaaDoor.Ev
open Go Go.RowKit
set_option linter.unusedVariables false
set_option linter.unusedSimpArgs false
def chkSet (L : List Setting) (plain : Bool) : Option ByteArray → List Pair → Int
  | _, [] => 0
  | prev, p :: r => match look L p.1 with
    | none => 5
    | some s => if memB s.2 p.2 = false then 1 else if plain = true ∧ s.2.head? = some p.2 then 3 else if notAbove prev p.1 = true then 8 else chkSet L plain (some p.1) r
theorem chkSet_none {L : List Setting} {b : Bool} {C : List Pair} {j : Nat} (h : j < C.length) (hl : look L C[j].1 = none) : chkSet L b (prevOf C j) (C.drop j) = 5 := by
  rw [drop_cons h, chkSet, hl]
theorem chkSet_some {L : List Setting} {b : Bool} {C : List Pair} {j : Nat} (h : j < C.length) {s : Setting} (hl : look L C[j].1 = some s) : chkSet L b (prevOf C j) (C.drop j) =
    if memB s.2 C[j].2 = false then 1 else if b = true ∧ s.2.head? = some C[j].2 then 3 else if notAbove (prevOf C j) C[j].1 = true then 8 else chkSet L b (prevOf C (j + 1)) (C.drop (j + 1)) := by
  rw [drop_cons h, chkSet, hl, prevOf_succ h]
theorem not_false_eq (b : Bool) : bnot b = decide (b = false) := by cases b <;> rfl
theorem head_of_mem {l : List ByteArray} {x : ByteArray} (h : memB l x = true) : ∃ v r, l = v :: r := by
  cases l with
  | nil => cases memB_iff.1 h
  | cons v r => exact ⟨v, r, rfl⟩
/-- the order of names, and what comes then -/
theorem order_step {ι : Type} {l : ι → Nat} {C : List Pair} {j : Nat} (hlt : j < C.length) (hC : C.length ≤ 9223372036854775807) {rest : Int} {f : ι → Option Int} (nx : Ult l f rest) :
    Ult l (fun i => cnd (igt (j : Int) 0) (bnd (at? C (isub .i64 (j : Int) 1)) fun a => cnd (sle C[j].1 a.1) (some 8) (f i)) (f i)) (if notAbove (prevOf C j) C[j].1 = true then 8 else rest) := by
  rw [igt0]
  by_cases h0 : 0 < j
  · refine Ult.yes (decide_eq_true h0) ?_
    rw [ipred (n := C.length) h0 (by omega) (by omega)]
    refine Ult.bindc (at?_nat (show j - 1 < C.length by omega)) ?_
    have hp : prevOf C j = some C[j - 1].1 := by unfold prevOf; rw [dif_pos ⟨h0, by omega⟩]
    rw [hp]
    exact Ult.ifS (dec_true _) (fun _ => Ult.ret) fun _ => nx
  · refine Ult.no (decide_eq_false h0) ?_
    have : j = 0 := by omega
    subst this
    rw [prevOf_zero, if_neg (by simp [notAbove])]
    exact nx
theorem S63_spec (L : List Setting) (C : List Pair) (b : Bool) (hL : SetSz L) (hC : C.length ≤ 140737488355328) : Ultk (fun k => S63 k (L, C, b, ())) (chkSet L b none C) := by
  unfold S63
  have hlen := hL.len
  refine (Ult.forI (fun _ => Nat.le_refl _) C.length (fun j => chkSet L b (prevOf C j) (C.drop j)) fun j hj next => ?_).eq (by rw [List.drop_zero, prevOf_zero])
  dsimp only
  rw [iltL]
  by_cases hlt' : ¬ j < C.length
  · refine Ult.no (decide_eq_false hlt') (Ult.ret.eq ?_)
    rw [List.drop_eq_nil_of_le (by omega)]
    cases prevOf C j <;> rfl
  have hlt : j < C.length := Decidable.not_not.1 hlt'
  refine Ult.yes (decide_eq_true hlt) (Ult.bindc (at?_nat hlt) ?_)
  rw [isucc hlt (by omega)]
  have next' := next hlt
  clear next
  refine Ult.bind (Ult.call (f := fun k => S56 k (L, C[j].1, ())) (lp_le _ _ fun _ => Nat.le_refl _) (S56_spec L C[j].1 (by omega))) ?_
  cases hl : look L C[j].1 with
  | none =>
    rw [chkSet_none hlt hl]
    exact Ult.yes (by rw [ilt_eq]; exact decide_eq_true (idxF_neg.2 hl)) Ult.ret
  | some s =>
    rw [chkSet_some hlt hl]
    obtain ⟨i1, i2⟩ := idxF_at (p := fun s : Setting => decide (s.1 = C[j].1)) hl
    have i1 : at? L (idxN L C[j].1) = some s := i1
    have i2 : 0 ≤ idxN L C[j].1 := i2
    refine Ult.no (by rw [ilt_eq]; exact decide_eq_false (by omega)) (Ult.bindc i1 ?_)
    obtain ⟨m1, m2⟩ := look_name hl
    obtain ⟨hs1, hs2, hs3⟩ := hL.2 s m1
    have hs2' := len_big hs2 (by omega)
    refine Ult.bind (Ult.call (f := fun k => S61 k (s.2, C[j].2, ())) (lp_le _ _ fun _ => Nat.le_refl _) (S61_spec s.2 C[j].2 (by omega))) ?_
    refine Ult.ifS (not_false_eq _) (fun _ => Ult.ret) fun hm => ?_
    rw [Bool.not_eq_false] at hm
    obtain ⟨v0, r0, e0⟩ := head_of_mem hm
    refine Ult.jn ?_
    refine Ult.ite (fun hb => ?_) (fun hb => ?_)
    · refine Ult.bindc i1 (Ult.bindc (show at? s.2 0 = some v0 by rw [e0]; rfl) (Ult.ifS ?_ (fun _ => Ult.ret) fun _ => order_step hlt (by omega) next'))
      rw [seq_eq, e0]
      have hb : b = true := hb
      simp only [decide_eq_decide, hb, true_and, List.head?_cons, Option.some.injEq]
      exact eq_comm
    · exact Ult.ifS (by have hb : b = false := hb; rw [hb]; simp) (fun _ => Ult.ret) fun _ => order_step hlt (by omega) next'
/-- config.CheckConfig -/
def chkConfig (L : List Setting) (C : List Pair) : Int := if chkSettings L ≠ 0 then chkSettings L else chkSet L true none C
theorem S19_spec (L : List Setting) (C : List Pair) (hL : SetSz L) (hC : C.length ≤ 140737488355328) : Ultk (fun k => S19 k (L, C, ())) (chkConfig L C) := by
  unfold S19 chkConfig
  refine Ult.bind (S17_spec L hL) (Ult.ifS (ine_eq _ _) (fun _ => Ult.ret) fun _ => Ult.bind (S63_spec L C true hL hC) Ult.ret)
theorem S20_spec (L : List Setting) (C : List Pair) (hL : SetSz L) (hC : C.length ≤ 140737488355328) : Ultk (fun k => S20 k (L, C, ())) (chkConfig L C) := by
  unfold S20 chkConfig
  refine Ult.bind (S18_spec L hL) (Ult.ifS (ine_eq _ _) (fun _ => Ult.ret) fun _ => ?_)
  have hlen := hL.len
  refine (Ult.forI (fun _ => Nat.le_refl _) C.length (fun j => chkSet L true (prevOf C j) (C.drop j)) fun j hj next => ?_).eq (by rw [List.drop_zero, prevOf_zero])
  dsimp only
  rw [iltL]
  by_cases hlt' : ¬ j < C.length
  · refine Ult.no (decide_eq_false hlt') (Ult.ret.eq ?_)
    rw [List.drop_eq_nil_of_le (by omega)]
    cases prevOf C j <;> rfl
  have hlt : j < C.length := Decidable.not_not.1 hlt'
  refine Ult.yes (decide_eq_true hlt) (Ult.bindc (at?_nat hlt) ?_)
  rw [isucc hlt (by omega)]
  have next' := next hlt
  clear next
  refine Ult.bind (Ult.call (f := fun k => S58 k (L, C[j].1, ())) (lp_le _ _ fun _ => Nat.le_refl _) (S58_spec L C[j].1 (by omega))) ?_
  cases hl : look L C[j].1 with
  | none =>
    rw [chkSet_none hlt hl]
    have : lookS L C[j].1 = ((⟨#[]⟩, []), false) := by unfold lookS; rw [hl]
    rw [this]
    exact Ult.yes rfl Ult.ret
  | some s =>
    rw [chkSet_some hlt hl]
    have : lookS L C[j].1 = (s, true) := by unfold lookS; rw [hl]
    rw [this]
    refine Ult.no rfl ?_
    obtain ⟨m1, m2⟩ := look_name hl
    obtain ⟨hs1, hs2, hs3⟩ := hL.2 s m1
    have hs2' := len_big hs2 (by omega)
    refine Ult.bind (Ult.call (f := fun k => S61 k (s.2, C[j].2, ())) (lp_le _ _ fun _ => Nat.le_refl _) (S61_spec s.2 C[j].2 (by omega))) ?_
    refine Ult.ifS (not_false_eq _) (fun _ => Ult.ret) fun hm => ?_
    rw [Bool.not_eq_false] at hm
    obtain ⟨v0, r0, e0⟩ := head_of_mem hm
    refine Ult.bindc (show at? s.2 0 = some v0 by rw [e0]; rfl) ?_
    refine Ult.ifS ?_ (fun _ => Ult.ret) fun _ => order_step hlt (by omega) next'
    rw [seq_eq, e0]
    simp

/-! ### values -/
theorem chkSets_ne {L : List Setting} : ∀ {prev : Option ByteArray}, chkSets prev L = 0 → ∀ s ∈ L, s.2 ≠ [] ∧ isWord s.1 = true ∧ chkVals [] s.2 = 0 := by
  induction L with
  | nil => intro prev _ s hs; cases hs
  | cons t L ih =>
    intro prev h s hs
    rw [chkSets] at h
    split at h
    · cases h
    · rename_i h1
      split at h
      · cases h
      · rename_i h2
        split at h
        · cases h
        · split at h
          · rename_i h4; exact absurd h h4
          · rename_i h4
            split at h
            · cases h
            · rcases List.mem_cons.1 hs with rfl | hs
              · exact ⟨h2, by simpa using h1, by simpa using h4⟩
              · exact ih h s hs
theorem chkSettings_ne {L : List Setting} (h : chkSettings L = 0) : L.length ≤ 30 ∧ ∀ s ∈ L, s.2 ≠ [] ∧ isWord s.1 = true ∧ chkVals [] s.2 = 0 := by
  unfold chkSettings at h
  split at h
  · cases h
  · exact ⟨by omega, chkSets_ne h⟩
theorem chkConfig_ok {L : List Setting} {C : List Pair} (h : chkConfig L C = 0) : chkSettings L = 0 ∧ chkSet L true none C = 0 := by
  unfold chkConfig at h
  split at h
  · rename_i q; exact absurd h q
  · rename_i q; exact ⟨Decidable.not_not.1 q, h⟩
/-- the value of a setting that there is -/
def valOf (L : List Setting) (C : List Pair) (n : ByteArray) : Option ByteArray := match look C n with
  | some p => some p.2
  | none => (look L n).bind fun s => s.2.head?
theorem S57_spec (L : List Setting) (C : List Pair) (n v : ByteArray) (hL : L.length ≤ 9223372036854775807) (hC : C.length ≤ 9223372036854775807) (hv : valOf L C n = some v) : Ultk (fun k => S57 k (L, C, n, ())) v := by
  unfold S57
  refine Ult.bind (S97_spec C n hC) ?_
  unfold valOf at hv
  unfold lookV
  cases hc : look C n with
  | some p =>
    rw [hc] at hv
    cases hv
    exact Ult.yes rfl Ult.ret
  | none =>
    rw [hc] at hv
    refine Ult.no rfl (Ult.bind (S56_spec L n hL) ?_)
    cases hl : look L n with
    | none => rw [hl] at hv; cases hv
    | some s =>
      rw [hl] at hv
      obtain ⟨i1, i2⟩ := idxF_at (p := fun s : Setting => decide (s.1 = n)) hl
      refine Ult.bindc i1 ?_
      have hv : s.2.head? = some v := hv
      cases hs : s.2 with
      | nil => rw [hs] at hv; cases hv
      | cons a r =>
        rw [hs] at hv
        cases hv
        exact Ult.bindc (show at? (v :: r) 0 = some v from rfl) Ult.ret
theorem S59_spec (L : List Setting) (C : List Pair) (n v : ByteArray) (hL : L.length ≤ 9223372036854775807) (hC : C.length ≤ 9223372036854775807) (hv : valOf L C n = some v) : Ultk (fun k => S59 k (L, C, n, ())) v := by
  unfold S59
  have hd : ∀ j, j ≤ C.length → (match look (C.drop j) n with | some p => some p.2 | none => (look L n).bind fun s => s.2.head?) = some v ∨ ∃ i, i < j ∧ True := fun j _ => by
    cases j with
    | zero => exact .inl (by rw [List.drop_zero]; exact hv)
    | succ j => exact .inr ⟨0, by omega, trivial⟩
  clear hd
  refine Ult.forA (A := Unit) (fun _ => Nat.le_refl _) C.length (fun _ j => (j : Int)) (fun _ j => valOf L (C.drop j) n = some v) (fun _ _ => v) () (by rw [List.drop_zero]; exact hv) fun _ j hj hI next => ?_
  dsimp only
  rw [iltL]
  by_cases hlt' : ¬ j < C.length
  · refine Ult.no (decide_eq_false hlt') ?_
    rw [List.drop_eq_nil_of_le (by omega)] at hI
    have hI : (look L n).bind (fun s => s.2.head?) = some v := hI
    refine Ult.bind (Ult.call (f := fun k => S58 k (L, n, ())) (lp_le _ _ fun _ => Nat.le_refl _) (S58_spec L n hL)) ?_
    unfold lookS
    cases hl : look L n with
    | none => rw [hl] at hI; cases hI
    | some s =>
      rw [hl] at hI
      have hI : s.2.head? = some v := hI
      cases hs : s.2 with
      | nil => rw [hs] at hI; cases hI
      | cons a r =>
        rw [hs] at hI
        cases hI
        exact Ult.bindc (show at? (v :: r) 0 = some v from rfl) Ult.ret
  have hlt : j < C.length := Decidable.not_not.1 hlt'
  refine Ult.yes (decide_eq_true hlt) (Ult.bindc (at?_nat hlt) ?_)
  rw [isucc hlt hC, seq_eq]
  rw [drop_cons hlt] at hI
  unfold valOf look at hI
  by_cases h : C[j].1 = n
  · rw [List.find?_cons_of_pos (by simpa using h)] at hI
    cases hI
    exact Ult.yes (decide_eq_true h) Ult.ret
  · rw [List.find?_cons_of_neg (by simpa using h)] at hI
    exact Ult.no (decide_eq_false h) (next () hlt hI)
theorem valOf_some {L : List Setting} {C : List Pair} {n : ByteArray} (hL : chkSettings L = 0) {s : Setting} (hl : look L n = some s) : ∃ v, valOf L C n = some v := by
  unfold valOf
  cases look C n with
  | some p => exact ⟨_, rfl⟩
  | none =>
    rw [hl]
    have := ((chkSettings_ne hL).2 s (look_name hl).1).1
    cases hs : s.2 with
    | nil => exact absurd hs this
    | cons a r => exact ⟨a, by simp [hs]⟩
/-- config.ValueOf -/
def valueOf (L : List Setting) (C : List Pair) (n : ByteArray) : ByteArray × Int := if chkConfig L C ≠ 0 then (⟨#[]⟩, chkConfig L C) else if look L n = none then (⟨#[]⟩, 5) else ((valOf L C n).getD ⟨#[]⟩, 0)
theorem S15_spec (L : List Setting) (C : List Pair) (n : ByteArray) (hL : SetSz L) (hC : C.length ≤ 140737488355328) : Ultk (fun k => S15 k (L, C, n, ())) (valueOf L C n) := by
  unfold S15 valueOf
  have hlen := hL.len
  refine Ult.bind (S19_spec L C hL hC) (Ult.ifS (ine_eq _ _) (fun _ => Ult.ret) fun h0 => ?_)
  refine Ult.bind (S56_spec L n (by omega)) (Ult.ifS ?_ (fun _ => Ult.ret) fun hl => ?_)
  · rw [ilt_eq]
    simp only [decide_eq_decide]
    exact idxF_neg
  · cases hs : look L n with
    | none => exact absurd hs hl
    | some s =>
      obtain ⟨v, hv⟩ := valOf_some (C := C) (chkConfig_ok (Decidable.not_not.1 h0)).1 hs
      rw [hv]
      exact Ult.bind (S57_spec L C n v (by omega) (by omega) hv) Ult.ret
theorem S16_spec (L : List Setting) (C : List Pair) (n : ByteArray) (hL : SetSz L) (hC : C.length ≤ 140737488355328) : Ultk (fun k => S16 k (L, C, n, ())) (valueOf L C n) := by
  unfold S16 valueOf
  have hlen := hL.len
  refine Ult.bind (S20_spec L C hL hC) (Ult.ifS (ine_eq _ _) (fun _ => Ult.ret) fun h0 => ?_)
  refine Ult.bind (S58_spec L n (by omega)) ?_
  unfold lookS
  cases hs : look L n with
  | none => exact Ult.yes rfl (Ult.ret.eq (by simp))
  | some s =>
    obtain ⟨v, hv⟩ := valOf_some (C := C) (chkConfig_ok (Decidable.not_not.1 h0)).1 hs
    rw [hv, if_neg (by simp)]
    exact Ult.no rfl (Ult.bind (S59_spec L C n v (by omega) (by omega) hv) Ult.ret)
end Go.Proofs.YtklmkonpilkfnaaDoor.Ev
