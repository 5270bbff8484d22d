/- Laws of BlobSelects: the table of fits ends (this session's own). No condition but those in the statements. -/
import Derived.Test.YtjdfbpjbobmgdaaDoorPvB
namespace Go.Proofs.YtjdfbpjbobmgdaaDoor.Ev
open Go Go.RowKit
set_option linter.unusedVariables false
set_option linter.unusedSimpArgs false
theorem inb_ok {n : Int} {i : Nat} (h : (i : Int) < n) : inb n (i : Int) = some () := by unfold inb; rw [if_pos ⟨Int.natCast_nonneg _, h⟩]
theorem setAt_len {l : List Bool} {i : Int} {b : Bool} : (setAt l i b).length = l.length := by unfold setAt; simp
theorem setAt_get {l : List Bool} {i u : Nat} {b : Bool} (hi : i < l.length) : (setAt l (i : Int) b).getD u false = if u = i then b else l.getD u false := by
  unfold setAt
  rw [Int.toNat_natCast]
  simp only [List.getD_eq_getElem?_getD, List.getElem?_set]
  by_cases e : i = u
  · subst e; simp [hi]
  · rw [if_neg e, if_neg (fun q => e q.symm)]
theorem S36_fin {ι : Type} {l : ι → Nat} {kk : ι → Nat} (hk : ∀ i, l i ≤ kk i) (A B : List ByteArray) (m : ι → ByteArray → Option Bool) (o : ι → ByteArray × ByteArray → Option Bool) (M : ByteArray → Bool) (hm : ∀ c, Ult l (fun i => m i c) (M c))
    (ho : ∀ c, c.1 ∈ A → c.2 ∈ B → Fin l (fun i => o i c) (fun _ => True)) (hA : A.length ≤ 300) (hB : B.length ≤ 300) : Fin l (fun i => S36 (kk i) (A, B, m i, o i, ())) (fun r => ∀ c, A = [c] → M c = true → r = true) := by
  unfold S36
  have e1 : iadd .i64 (len B) 1 = ((B.length + 1 : Nat) : Int) := by unfold len; rw [iadd64 (by omega) (by omega)]; rfl
  have hmk : ∀ n : Nat, n ≤ 400 → mk? 1 false (n : Int) (n : Int) = some (List.replicate n false) := fun n hn => by
    unfold mk?
    rw [if_pos ⟨rfl, Int.natCast_nonneg _, by rw [Int.toNat_natCast]; show n * 1 ≤ _; omega⟩, Int.toNat_natCast]
  dsimp only
  rw [e1]
  refine Fin.bindc (hmk _ (by omega)) ?_
  refine Fin.bindc (by unfold len; exact inb_ok (i := 0) (by simp)) ?_
  refine Fin.loopI hk (fun x => ∃ (can : List Bool) (j : Nat), x = (can, (j : Int)) ∧ j ≤ A.length ∧ can.length = B.length + 1 ∧ (j = 0 → can.getD 0 false = true) ∧ ∀ c, A = [c] → M c = true → 1 ≤ j → ∀ q, q < can.length → can.getD q false = true) (fun x => A.length - x.2.toNat)
    ⟨_, 0, rfl, Nat.zero_le _, by rw [setAt_len]; simp, fun _ => by rw [show (0 : Int) = ((0 : Nat) : Int) from rfl, setAt_get (by simp), if_pos rfl], fun _ _ _ h => by omega⟩ ?_
  rintro _ ⟨can, j, rfl, hj, hcl, hc0, hc1⟩ next
  refine Fin.ite (fun hc => ?_) (fun hc => ?_)
  · have hlt : j < A.length := len_lt hc
    refine Fin.bindc (at?_nat hlt) ?_
    refine Fin.bindc (by unfold len; exact hmk can.length (by omega)) ?_
    have hjj : iadd .i64 (j : Int) 1 = ((j + 1 : Nat) : Int) := by rw [iadd64 (by omega) (by omega)]; rfl
    refine Fin.loopI (lp_le _ _ hk) (fun x => ∃ (any : Bool) (q : Nat) (nx : List Bool), x = (any, (q : Int), nx) ∧ q ≤ can.length ∧ nx.length = can.length ∧ ∀ c, A = [c] → M c = true → (0 < q → any = true) ∧ ∀ u, u < q → nx.getD u false = true) (fun x => can.length - x.2.1.toNat)
      ⟨false, 0, _, rfl, Nat.zero_le _, by simp [len], fun _ _ _ => ⟨fun h => by omega, fun u h => by omega⟩⟩ ?_
    rintro _ ⟨any, q, nx, rfl, hq, hnl, hinv⟩ next2
    refine Fin.ite (fun hc2 => ?_) (fun hc2 => ?_)
    · have hq2 : q < can.length := len_lt hc2
      have hqq : iadd .i64 (q : Int) 1 = ((q + 1 : Nat) : Int) := by rw [iadd64 (by omega) (by omega)]; rfl
      have hin : inb (len nx) (q : Int) = some () := by unfold len; exact inb_ok (by omega)
      have h1 := (hm A[j]).lift.lift
      refine Fin.bindu h1 ?_
      dsimp only
      rw [hqq]
      have go := fun (b any' : Bool) (hb : ∀ c, A = [c] → M c = true → any' = true ∧ b = true) => next2 (any', ((q + 1 : Nat) : Int), setAt nx (q : Int) b) ⟨any', q + 1, _, rfl, hq2, by rw [setAt_len]; exact hnl, fun c hA1 hM => ⟨fun _ => (hb c hA1 hM).1, fun u hu => by
        rw [setAt_get (by omega)]
        split
        · exact (hb c hA1 hM).2
        · exact (hinv c hA1 hM).2 u (by omega)⟩⟩ (by dsimp only; omega)
      have sgl : ∀ c, A = [c] → A[j] = c ∧ j = 0 := fun c hA1 => by
        subst hA1
        have : j = 0 := by simp at hlt; omega
        subst this
        exact ⟨rfl, rfl⟩
      refine Fin.ite (fun hM => ?_) (fun hM => ?_)
      · refine Fin.ite (fun ha => ?_) (fun ha => ?_)
        · exact Fin.bindc hin (go true true fun _ _ _ => ⟨rfl, rfl⟩)
        · refine Fin.bindc (at?_nat hq2) (Fin.bindc hin (go _ _ fun c hA1 hM1 => ?_))
          have hj0 := (sgl c hA1).2
          have hq0 : q = 0 := by
            rcases Nat.eq_zero_or_pos q with h | h
            · exact h
            · have := (hinv c hA1 hM1).1 h
              rw [show any = false from ha] at this; cases this
          subst hq0
          have := hc0 hj0
          have e : can[0] = true := by simpa [List.getD_eq_getElem?_getD, hq2] using this
          exact ⟨e, e⟩
      · have no : ∀ c, A = [c] → M c = true → False := fun c hA1 hM1 => by
          rw [(sgl c hA1).1, hM1] at hM; cases hM
        refine Fin.ite (fun hq0 => ?_) (fun hq0 => ?_)
        · have hqp : 0 < q := by
            have := igt_true hq0
            omega
          have hsub : isub .i64 (q : Int) 1 = ((q - 1 : Nat) : Int) := by rw [isub64 (by omega) (by omega)]; omega
          rw [hsub]
          refine Fin.bindc (at?_nat (show q - 1 < can.length by omega)) ?_
          refine Fin.ite (fun _ => ?_) (fun _ => ?_)
          · have hqB : q - 1 < B.length := by omega
            have h2 := (ho (A[j], B[q - 1]) (List.getElem_mem hlt) (List.getElem_mem hqB)).lift.lift
            refine Fin.bindc (at?_nat hqB) (Fin.bind h2 fun b _ => ?_)
            exact Fin.bindc hin (go b any fun c h1 h2 => (no c h1 h2).elim)
          · exact Fin.bindc hin (go false any fun c h1 h2 => (no c h1 h2).elim)
        · exact next2 (any, ((q + 1 : Nat) : Int), nx) ⟨any, q + 1, nx, rfl, hq2, hnl, fun c h1 h2 => (no c h1 h2).elim⟩ (by dsimp only; omega)
    · have hqe : q = can.length := by
        have : can.length ≤ q := len_ge hc2
        omega
      have := (next (nx, ((j + 1 : Nat) : Int)) ⟨nx, j + 1, rfl, hlt, by omega, fun h => by omega, fun c hA1 hM _ u hu => (hinv c hA1 hM).2 u (by omega)⟩ (by dsimp only; omega)).lift
      dsimp only
      rw [hjj]
      exact this
  · have hje : j = A.length := by
      have : A.length ≤ j := len_ge hc
      omega
    have e2 : (len B : Int) = ((B.length : Nat) : Int) := rfl
    dsimp only
    refine Fin.bindc (by rw [e2]; unfold len; exact inb_ok (by omega)) (Fin.ret fun c hA1 hM => ?_)
    unfold gt
    rw [e2, Int.toNat_natCast]
    exact hc1 c hA1 hM (by rw [hje, hA1]; simp) _ (by omega)

theorem S50_fin {ι : Type} {l : ι → Nat} {kk : ι → Nat} (hk : ∀ i, l i ≤ kk i) (A B : List Int) (m : ι → Int → Option Bool) (o : ι → Int × Int → Option Bool) (M : Int → Bool) (hm : ∀ c, Ult l (fun i => m i c) (M c))
    (ho : ∀ c, c.1 ∈ A → c.2 ∈ B → Fin l (fun i => o i c) (fun _ => True)) (hA : A.length ≤ 300) (hB : B.length ≤ 300) : Fin l (fun i => S50 (kk i) (A, B, m i, o i, ())) (fun r => ∀ c, A = [c] → M c = true → r = true) := by
  unfold S50
  have e1 : iadd .i64 (len B) 1 = ((B.length + 1 : Nat) : Int) := by unfold len; rw [iadd64 (by omega) (by omega)]; rfl
  have hmk : ∀ n : Nat, n ≤ 400 → mk? 1 false (n : Int) (n : Int) = some (List.replicate n false) := fun n hn => by
    unfold mk?
    rw [if_pos ⟨rfl, Int.natCast_nonneg _, by rw [Int.toNat_natCast]; show n * 1 ≤ _; omega⟩, Int.toNat_natCast]
  dsimp only
  rw [e1]
  refine Fin.bindc (hmk _ (by omega)) ?_
  refine Fin.bindc (by unfold len; exact inb_ok (i := 0) (by simp)) ?_
  refine Fin.loopI hk (fun x => ∃ (can : List Bool) (j : Nat), x = (can, (j : Int)) ∧ j ≤ A.length ∧ can.length = B.length + 1 ∧ (j = 0 → can.getD 0 false = true) ∧ ∀ c, A = [c] → M c = true → 1 ≤ j → ∀ q, q < can.length → can.getD q false = true) (fun x => A.length - x.2.toNat)
    ⟨_, 0, rfl, Nat.zero_le _, by rw [setAt_len]; simp, fun _ => by rw [show (0 : Int) = ((0 : Nat) : Int) from rfl, setAt_get (by simp), if_pos rfl], fun _ _ _ h => by omega⟩ ?_
  rintro _ ⟨can, j, rfl, hj, hcl, hc0, hc1⟩ next
  refine Fin.ite (fun hc => ?_) (fun hc => ?_)
  · have hlt : j < A.length := len_lt hc
    refine Fin.bindc (at?_nat hlt) ?_
    refine Fin.bindc (by unfold len; exact hmk can.length (by omega)) ?_
    have hjj : iadd .i64 (j : Int) 1 = ((j + 1 : Nat) : Int) := by rw [iadd64 (by omega) (by omega)]; rfl
    refine Fin.loopI (lp_le _ _ hk) (fun x => ∃ (any : Bool) (q : Nat) (nx : List Bool), x = (any, (q : Int), nx) ∧ q ≤ can.length ∧ nx.length = can.length ∧ ∀ c, A = [c] → M c = true → (0 < q → any = true) ∧ ∀ u, u < q → nx.getD u false = true) (fun x => can.length - x.2.1.toNat)
      ⟨false, 0, _, rfl, Nat.zero_le _, by simp [len], fun _ _ _ => ⟨fun h => by omega, fun u h => by omega⟩⟩ ?_
    rintro _ ⟨any, q, nx, rfl, hq, hnl, hinv⟩ next2
    refine Fin.ite (fun hc2 => ?_) (fun hc2 => ?_)
    · have hq2 : q < can.length := len_lt hc2
      have hqq : iadd .i64 (q : Int) 1 = ((q + 1 : Nat) : Int) := by rw [iadd64 (by omega) (by omega)]; rfl
      have hin : inb (len nx) (q : Int) = some () := by unfold len; exact inb_ok (by omega)
      have h1 := (hm A[j]).lift.lift
      refine Fin.bindu h1 ?_
      dsimp only
      rw [hqq]
      have go := fun (b any' : Bool) (hb : ∀ c, A = [c] → M c = true → any' = true ∧ b = true) => next2 (any', ((q + 1 : Nat) : Int), setAt nx (q : Int) b) ⟨any', q + 1, _, rfl, hq2, by rw [setAt_len]; exact hnl, fun c hA1 hM => ⟨fun _ => (hb c hA1 hM).1, fun u hu => by
        rw [setAt_get (by omega)]
        split
        · exact (hb c hA1 hM).2
        · exact (hinv c hA1 hM).2 u (by omega)⟩⟩ (by dsimp only; omega)
      have sgl : ∀ c, A = [c] → A[j] = c ∧ j = 0 := fun c hA1 => by
        subst hA1
        have : j = 0 := by simp at hlt; omega
        subst this
        exact ⟨rfl, rfl⟩
      refine Fin.ite (fun hM => ?_) (fun hM => ?_)
      · refine Fin.ite (fun ha => ?_) (fun ha => ?_)
        · exact Fin.bindc hin (go true true fun _ _ _ => ⟨rfl, rfl⟩)
        · refine Fin.bindc (at?_nat hq2) (Fin.bindc hin (go _ _ fun c hA1 hM1 => ?_))
          have hj0 := (sgl c hA1).2
          have hq0 : q = 0 := by
            rcases Nat.eq_zero_or_pos q with h | h
            · exact h
            · have := (hinv c hA1 hM1).1 h
              rw [show any = false from ha] at this; cases this
          subst hq0
          have := hc0 hj0
          have e : can[0] = true := by simpa [List.getD_eq_getElem?_getD, hq2] using this
          exact ⟨e, e⟩
      · have no : ∀ c, A = [c] → M c = true → False := fun c hA1 hM1 => by
          rw [(sgl c hA1).1, hM1] at hM; cases hM
        refine Fin.ite (fun hq0 => ?_) (fun hq0 => ?_)
        · have hqp : 0 < q := by
            have := igt_true hq0
            omega
          have hsub : isub .i64 (q : Int) 1 = ((q - 1 : Nat) : Int) := by rw [isub64 (by omega) (by omega)]; omega
          rw [hsub]
          refine Fin.bindc (at?_nat (show q - 1 < can.length by omega)) ?_
          refine Fin.ite (fun _ => ?_) (fun _ => ?_)
          · have hqB : q - 1 < B.length := by omega
            have h2 := (ho (A[j], B[q - 1]) (List.getElem_mem hlt) (List.getElem_mem hqB)).lift.lift
            refine Fin.bindc (at?_nat hqB) (Fin.bind h2 fun b _ => ?_)
            exact Fin.bindc hin (go b any fun c h1 h2 => (no c h1 h2).elim)
          · exact Fin.bindc hin (go false any fun c h1 h2 => (no c h1 h2).elim)
        · exact next2 (any, ((q + 1 : Nat) : Int), nx) ⟨any, q + 1, nx, rfl, hq2, hnl, fun c h1 h2 => (no c h1 h2).elim⟩ (by dsimp only; omega)
    · have hqe : q = can.length := by
        have : can.length ≤ q := len_ge hc2
        omega
      have := (next (nx, ((j + 1 : Nat) : Int)) ⟨nx, j + 1, rfl, hlt, by omega, fun h => by omega, fun c hA1 hM _ u hu => (hinv c hA1 hM).2 u (by omega)⟩ (by dsimp only; omega)).lift
      dsimp only
      rw [hjj]
      exact this
  · have hje : j = A.length := by
      have : A.length ≤ j := len_ge hc
      omega
    have e2 : (len B : Int) = ((B.length : Nat) : Int) := rfl
    dsimp only
    refine Fin.bindc (by rw [e2]; unfold len; exact inb_ok (by omega)) (Fin.ret fun c hA1 hM => ?_)
    unfold gt
    rw [e2, Int.toNat_natCast]
    exact hc1 c hA1 hM (by rw [hje, hA1]; simp) _ (by omega)

theorem S52_fin (a b : Int) : Fink (fun k => S52 k (a, b, ())) (fun _ => True) := by
  unfold S52
  exact Fin.ite (fun _ => Fin.ret trivial) (fun _ => Fin.ret trivial)
theorem bytesOf_len (s : ByteArray) : (bytesOf s).length = s.size := by unfold bytesOf; simp
theorem S38_fin (a b : ByteArray) (ha : a.size ≤ 200) (hb : b.size ≤ 200) : Fink (fun k => S38 k (a, b, ())) (fun _ => True) := by
  unfold S38
  have la := bytesOf_len a
  have lb := bytesOf_len b
  refine Fin.bindc (app?_ok (by simp; omega)) (Fin.bindc (app?_ok (by simp; omega)) ?_)
  have h := S50_fin (l := fun k : Nat => k) (kk := fun k => k) (fun _ => Nat.le_refl _) ([] ++ bytesOf a) ([] ++ bytesOf b) (fun k c => S51 k (c, ())) (fun k c => S52 k (c.1, c.2, ())) (fun c => ieq c 42) (fun c => Ult.ret) (fun c _ _ => S52_fin c.1 c.2) (by simp; omega) (by simp; omega)
  exact Fin.bind h fun _ _ => Fin.ret trivial
abbrev dbl : ByteArray := ⟨#[42, 42]⟩
theorem S18_fin (p s : ByteArray) (hp : p.size ≤ 200) (hs : s.size ≤ 200) : Fink (fun k => S18 k (p, s, ())) (fun r => sp p = [dbl] → r = true) := by
  unfold S18
  have h1 := S21_spec p (by omega)
  have h2 := S21_spec s (by omega)
  refine Fin.bindu (Ult.call (f := fun k => S21 k (p, sl, ())) (fun _ => Nat.le_refl _) h1) ?_
  refine Fin.bindu (Ult.call (f := fun k => S21 k (s, sl, ())) (fun _ => Nat.le_refl _) h2) ?_
  have l1 := sp_len p
  have l2 := sp_len s
  have h := S36_fin (l := fun k : Nat => k) (kk := fun k => k) (fun _ => Nat.le_refl _) (sp p) (sp s) (fun k c => S37 k (c, ())) (fun k c => S38 k (c.1, c.2, ())) (fun c => seq c dbl) (fun c => Ult.ret) (fun c h1 h2 => S38_fin c.1 c.2 (by have := sp_sizes p _ h1; omega) (by have := sp_sizes s _ h2; omega)) (by omega) (by omega)
  exact Fin.bind h fun b hb => Fin.ret fun e => hb dbl e (seq_self _)
theorem sp_dbl : sp dbl = [dbl] := by unfold sp; decide +kernel

end Go.Proofs.YtjdfbpjbobmgdaaDoor.Ev
