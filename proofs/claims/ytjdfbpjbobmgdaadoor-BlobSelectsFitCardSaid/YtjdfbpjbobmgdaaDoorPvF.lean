/- Laws of BlobSelects: Select (this session's own). No condition but those in the statements. -/
import Derived.Test.YtjdfbpjbobmgdaaDoorPvE
namespace Go.Proofs.YtjdfbpjbobmgdaaDoor.Ev
open Go Go.RowKit
set_option linter.unusedVariables false
set_option linter.unusedSimpArgs false
open Classical in
noncomputable def fitOf (p s : ByteArray) : Bool := if h : ∃ b, Ultk (fun k => S18 k (p, s, ())) b then h.choose else false
theorem fit_ult {p s : ByteArray} (hp : p.size ≤ 200) (hs : s.size ≤ 200) : Ultk (fun k => S18 k (p, s, ())) (fitOf p s) := by
  obtain ⟨b, _, hb⟩ := S18_fin p s hp hs
  have h : ∃ b, Ultk (fun k => S18 k (p, s, ())) b := ⟨b, hb⟩
  unfold fitOf
  rw [dif_pos h]
  exact h.choose_spec
theorem fit_dbl {s : ByteArray} (hs : s.size ≤ 200) : fitOf dbl s = true := by
  obtain ⟨b, h1, hb⟩ := S18_fin dbl s (by decide) hs
  rw [Ultk.unique (fit_ult (by decide) hs) hb]
  exact h1 sp_dbl
def PatOK (p : ByteArray) : Prop := Ultk (fun k => S8 k (p, ())) 0
theorem PatOK.size {p : ByteArray} (h : PatOK p) : p.size ≤ 200 := by
  obtain ⟨r, hr, hu⟩ := S8_fin p
  exact hr (Ultk.unique hu h)
def FilesOK (l : List File) : Prop := Ultk (fun k => S27 k (l, ())) 0
theorem FilesOK.spec {l : List File} (h : FilesOK l) : l.length ≤ 1000 ∧ ∀ x ∈ l, PathOK x.1 := by
  obtain ⟨r, hr, hu⟩ := S27_fin l
  exact hr (Ultk.unique hu h)
noncomputable def want (W N : List ByteArray) (x : File) : Bool := W.any (fun p => fitOf p x.1) && !N.any (fun p => fitOf p x.1)
noncomputable def sel (l : List File) (W N : List ByteArray) : List ByteArray := (l.filter (want W N)).map (·.1)
theorem sel_succ (l : List File) (W N : List ByteArray) (j : Nat) (h : j < l.length) : sel (l.take (j + 1)) W N = sel (l.take j) W N ++ (if want W N l[j] then [l[j].1] else []) := by
  unfold sel
  rw [List.take_succ_eq_append_getElem h, List.filter_append, List.map_append]
  congr 1
  by_cases q : want W N l[j] = true
  · simp [q]
  · simp [q]
theorem sel_len (l : List File) (W N : List ByteArray) : (sel l W N).length ≤ l.length := by
  unfold sel
  rw [List.length_map]
  exact List.length_filter_le _ _
theorem S11_fin (l : List File) (W N : List ByteArray) (hw : W.length + N.length ≤ 1000) : Fink (fun k => S11 k (l, W, N, ())) (fun r => (r.2 = 0 ∧ FilesOK l ∧ (∀ p ∈ W ++ N, PatOK p) ∧ r.1 = sel l W N) ∨ (r.2 ≠ 0 ∧ r.1 = [] ∧ ¬ (FilesOK l ∧ ∀ p ∈ W ++ N, PatOK p))) := by
  unfold S11
  obtain ⟨f, hf, hfu⟩ := S27_fin l
  refine Fin.bindu (Ult.call (f := fun k => S27 k (l, ())) (fun _ => Nat.le_refl _) hfu) ?_
  refine Fin.ite (fun h0 => Fin.ret (.inr ⟨?_, rfl, ?_⟩)) (fun h0 => ?_)
  · intro e
    have e : f = 0 := e
    subst e
    simp [ine] at h0
  · rintro ⟨h1, _⟩
    have := Ultk.unique hfu h1
    subst this
    simp [ine] at h0
  have hf0 : f = 0 := by simpa [ine] using h0
  subst hf0
  have hF : FilesOK l := hfu
  obtain ⟨hl, hP⟩ := hF.spec
  have h28 := S28_spec [W, N] (by simp) (by simp [tot]; omega)
  have hfl : [W, N].flatten = W ++ N := by simp
  rw [hfl] at h28
  refine Fin.bindu (Ult.call (f := fun k => S28 k ([W, N], ())) (fun _ => Nat.le_refl _) h28) ?_
  have hpl : (W ++ N).length ≤ 1000 := by simpa using hw
  refine Fin.loopI (fun _ => Nat.le_refl _) (fun x => ∃ j : Nat, j ≤ (W ++ N).length ∧ x = (j : Int) ∧ ∀ (i : Nat) (h : i < (W ++ N).length), i < j → PatOK (W ++ N)[i]) (fun x => (W ++ N).length - x.toNat) ⟨0, Nat.zero_le _, rfl, fun i h hi => by omega⟩ ?_
  rintro _ ⟨j, hj, rfl, hok⟩ next
  refine Fin.ite (fun hc => ?_) (fun hc => ?_)
  · have hlt : j < (W ++ N).length := len_lt hc
    refine Fin.bindc (at?_nat hlt) ?_
    obtain ⟨c, hc1, hcu⟩ := S8_fin (W ++ N)[j]
    refine Fin.bindu (Ult.call (f := fun k => S8 k ((W ++ N)[j], ())) (lp_le _ _ fun _ => Nat.le_refl _) hcu) ?_
    refine Fin.ite (fun h1 => Fin.ret (.inr ⟨?_, rfl, ?_⟩)) (fun h1 => ?_)
    · intro e
      have e : c = 0 := e
      subst e
      simp [ine] at h1
    · rintro ⟨_, h2⟩
      have := Ultk.unique hcu (h2 _ (List.getElem_mem hlt))
      subst this
      simp [ine] at h1
    · have hc0 : c = 0 := by simpa [ine] using h1
      subst hc0
      rw [iadd64 (by omega) (by omega)]
      refine next _ ⟨j + 1, hlt, rfl, fun i h hi => ?_⟩ (by omega)
      rcases Nat.lt_or_ge i j with q | q
      · exact hok i h q
      · have : i = j := by omega
        subst this
        exact hcu
  · have hall : ∀ p ∈ W ++ N, PatOK p := fun p hp => by
      obtain ⟨i, hi, rfl⟩ := List.getElem_of_mem hp
      have : (W ++ N).length ≤ j := len_ge hc
      exact hok i hi (by omega)
    refine Fin.loopI (lp_le _ _ fun _ => Nat.le_refl _) (fun x => ∃ i : Nat, i ≤ l.length ∧ x = (sel (l.take i) W N, (i : Int))) (fun x => l.length - x.2.toNat) ⟨0, Nat.zero_le _, by simp [sel]⟩ ?_
    rintro _ ⟨i, hi, rfl⟩ next2
    refine Fin.ite (fun hc2 => ?_) (fun hc2 => ?_)
    · have hlt2 : i < l.length := len_lt hc2
      have hpi := (hP _ (List.getElem_mem hlt2)).1
      have hs := sel_succ l W N i hlt2
      have hsl := sel_len (l.take i) W N
      rw [List.length_take] at hsl
      have nx := next2 (sel (l.take (i + 1)) W N, ((i + 1 : Nat) : Int)) ⟨i + 1, hlt2, rfl⟩ (by dsimp only; omega)
      have e3 : iadd .i64 (i : Int) 1 = ((i + 1 : Nat) : Int) := by rw [iadd64 (by omega) (by omega)]; rfl
      refine Fin.bindc (at?_nat hlt2) ?_
      dsimp only
      rw [e3]
      have hm : ∀ c, PatOK c → Ultk (fun k => S29 k (c, l[i], ())) (fitOf c l[i].1) := fun c hc => by
        unfold S29
        exact Ult.bind (fit_ult hc.size hpi) Ult.ret
      have a1 := S30_spec (l := lp (lp fun k : Nat => k)) (kk := fun p => p.1.1) (lp_le _ _ (lp_le _ _ fun _ => Nat.le_refl _)) W (fun p c => S29 p.1.1 (c, l[i], ())) (fun p => fitOf p l[i].1) (fun c hc => Ult.call (f := fun k => S29 k (c, l[i], ())) (lp_le _ _ (lp_le _ _ fun _ => Nat.le_refl _)) (hm c (hall c (List.mem_append_left _ hc)))) (by omega)
      have a2 := S30_spec (l := lp (lp fun k : Nat => k)) (kk := fun p => p.1.1) (lp_le _ _ (lp_le _ _ fun _ => Nat.le_refl _)) N (fun p c => S29 p.1.1 (c, l[i], ())) (fun p => fitOf p l[i].1) (fun c hc => Ult.call (f := fun k => S29 k (c, l[i], ())) (lp_le _ _ (lp_le _ _ fun _ => Nat.le_refl _)) (hm c (hall c (List.mem_append_right _ hc)))) (by omega)
      refine Fin.bindu a1 (Fin.ite (fun q1 => Fin.bindu a2 (Fin.ite (fun q2 => ?_) (fun q2 => ?_))) (fun q1 => ?_))
      · have hw1 : want W N l[i] = true := by unfold want; rw [q1]; exact q2
        rw [hw1, if_pos rfl] at hs
        refine Fin.bindc (app?_ok (by simp; omega)) ?_
        rw [← hs]; exact nx
      · have hw1 : want W N l[i] = false := by unfold want; rw [q1]; exact q2
        rw [hw1] at hs
        simp at hs
        rw [← hs]; exact nx
      · have hw1 : want W N l[i] = false := by unfold want; rw [q1]; rfl
        rw [hw1] at hs
        simp at hs
        rw [← hs]; exact nx
    · have hie : l.length ≤ i := len_ge hc2
      rw [List.take_of_length_le hie]
      exact Fin.ret (.inl ⟨rfl, hF, hall, rfl⟩)

end Go.Proofs.YtjdfbpjbobmgdaaDoor.Ev
