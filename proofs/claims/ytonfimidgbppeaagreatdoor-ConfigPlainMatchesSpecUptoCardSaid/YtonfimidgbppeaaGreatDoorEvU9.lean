/- The bulk of what a row hands over bounds the bulk of the plain data (this session's own): for the rows '..Upto'. No condition. -/
import Derived.Test.YtonfimidgbppeaaGreatDoorEv5
import Derived.Test.YtonfimidgbppeaaGreatDoorRows
namespace Go.Proofs.YtonfimidgbppeaaGreatDoor.Ev
open Go.RowKit
set_option linter.unusedVariables false
set_option linter.unusedSimpArgs false
def kbulk : (k : Kd) → k.T → Nat
  | .int _, _ => 1
  | .bool, _ => 1
  | .str, s => s.size + 1
  | .slice e, l => (l.map fun x => kbulk e x).sum + 1
  | .map _ _, _ => 1
  | .iter _ _ _, _ => 1
  | .oslice _, _ => 1
  | .unit, _ => 0
  | .pair a b, x => kbulk a x.1 + kbulk b x.2
  | .agg c, x => kbulk c x + 1
theorem bulk_one {H : Type} (d : DataW H) : 1 ≤ Rows.uptoBulk d := by
  cases d with
  | lit l => cases l <;> simp [Rows.uptoBulk]
  | nil => simp [Rows.uptoBulk]
  | ptr d => simp [Rows.uptoBulk]
  | slice elems spare => simp [Rows.uptoBulk]
  | agg parts => simp [Rows.uptoBulk]
  | iface t d => simp [Rows.uptoBulk]
  | map entries => simp [Rows.uptoBulk]
  | held h => simp [Rows.uptoBulk]
/-- whatever reads as data at type t, and as the kind k, has at most that bulk -/
def RdB (P : Program) (t : TypeId) (k : Kd) : Prop :=
  ∀ (H : Type) (enc : TypeId × Value → H) (w : World) (base : Nat) (spare : Nat → Bool) (held : Bool) (fuel : Nat) (cs : List Value) (x : DataW H × List MemPlace) (F : Nat → Prop) (v : k.T),
    DataW.trod enc P w base spare held fuel t cs = some x → Rd w F k cs v → kbulk k v ≤ Rows.uptoBulk x.1
theorem RdB.int {P : Program} {t : TypeId} {k : IntKind} : RdB P t (.int k) := fun H enc w base spare held fuel cs x F v h _ => bulk_one _
theorem RdB.bool {P : Program} {t : TypeId} : RdB P t .bool := fun H enc w base spare held fuel cs x F v h _ => bulk_one _
theorem RdB.oslice {P : Program} {t : TypeId} {n : Nat} : RdB P t (.oslice n) := fun H enc w base spare held fuel cs x F v h _ => bulk_one _
theorem RdB.str {P : Program} {t : TypeId} (ht : P.underlying t = some .string) : RdB P t .str := by
  intro H enc w base spare held fuel cs x F v h hr
  obtain ⟨s, rfl, rfl, _⟩ := DataW.trod_string ht h
  have hr : [Value.string s] = [Value.string v] := hr
  cases hr
  simp [kbulk, Rows.uptoBulk]
theorem sum_le {H α : Type} {f : α → Nat} : ∀ {l : List α} {m : List (DataW H)}, l.length = m.length → (∀ (i : Nat) (h1 : i < l.length) (h2 : i < m.length), f l[i] ≤ Rows.uptoBulk m[i]) → (l.map f).sum ≤ Rows.uptoBulkAll m
  | [], [], _, _ => by simp [Rows.uptoBulkAll]
  | [], _ :: _, h, _ => by simp at h
  | _ :: _, [], h, _ => by simp at h
  | a :: l, d :: m, h, hi => by
    have h0 := hi 0 (by simp) (by simp)
    have ih := sum_le (f := f) (l := l) (m := m) (by simpa using h) fun i h1 h2 => hi (i + 1) (Nat.succ_lt_succ h1) (Nat.succ_lt_succ h2)
    simp only [List.map_cons, List.sum_cons, Rows.uptoBulkAll]
    simp only [List.getElem_cons_zero] at h0
    omega
theorem RdB.slice {P : Program} {t e : TypeId} {d : Kd} (ht : P.underlying t = some (.slice e)) (hsz : d.sz = P.cellsOf e) (he : RdB P e d) : RdB P t (.slice d) := by
  intro H enc w base spare held fuel cs x F v h hr
  obtain ⟨A, c, hcs, hc, hrow⟩ := hr
  rcases DataW.trod_slice ht h with ⟨h1, rfl⟩ | ⟨a, len, cap, elems, rest, n, rfl, h1, rfl, hb, hl, hcm, hel, hread, _, _⟩
  · rw [hcs] at h1
    simp only [List.cons.injEq, Value.slice.injEq, and_true] at h1
    have hv : v = [] := List.eq_nil_of_length_eq_zero h1.2.1
    subst hv
    simp [kbulk, Rows.uptoBulk]
  · rw [hcs] at h1
    simp only [List.cons.injEq, Value.slice.injEq, and_true] at h1
    obtain ⟨rfl, hvl, rfl⟩ := h1
    have hsum : (v.map fun y => kbulk d y).sum ≤ Rows.uptoBulkAll (elems.map (·.1)) := by
      refine sum_le (by rw [List.length_map]; omega) fun i h1 h2 => ?_
      have hi : i < len := by omega
      have hr1 := hread i hi
      have hie : i < elems.length := by omega
      rw [List.getElem?_eq_getElem hie] at hr1
      obtain ⟨cs', hcs', htr⟩ := Option.bind_eq_some_iff.1 hr1
      obtain ⟨_, hlen', hcell⟩ := World.cells?_some hcs'
      rcases hrow with q | ⟨ad, q1, _, q2⟩
      · rw [q] at h1; cases h1
      · cases q1
        obtain ⟨ci, e1, e2, e3⟩ := q2 i h1
        have : cs' = ci := by
          apply List.ext_getElem?
          intro j
          by_cases hj : j < d.sz
          · have h3 := hcell j (by rw [← hsz]; exact hj)
            have hadd : (a.add (i * P.cellsOf e)).add j = a.add (i * d.sz + j) := by
              rw [hsz]
              unfold Addr.add
              by_cases h0 : i * P.cellsOf e = 0 <;> by_cases h1 : j = 0 <;> simp [h0, h1, Nat.add_assoc]
            rw [← h3, hadd, e2 j hj]
          · rw [List.getElem?_eq_none (by omega), List.getElem?_eq_none (by omega)]
        subst this
        rw [List.getElem_map]
        exact he H enc w base spare held n _ _ F _ htr e3
    simp only [kbulk, Rows.uptoBulk]
    omega
/-- the fields of a struct from a place on -/
def RdBs (P : Program) : List (Nat × Nat) → Nat → Kd → Prop := fun l o c =>
  ∀ (H : Type) (enc : TypeId × Value → H) (w : World) (base : Nat) (spare : Nat → Bool) (held : Bool) (fuel : Nat) (cs : List Value) (xs : List (DataW H × List MemPlace)) (F : Nat → Prop) (v : c.T), xs.length = l.length →
    (∀ (i : Nat) (h1 : i < l.length) (h2 : i < xs.length), DataW.trod enc P w base spare held fuel l[i].2 ((cs.drop l[i].1).take (P.cellsOf l[i].2)) = some xs[i]) → Rd w F c (cs.drop o) v → kbulk c v ≤ Rows.uptoBulkAll (xs.map (·.1))
theorem RdBs.nil {P : Program} {o : Nat} : RdBs P [] o .unit := by
  intro H enc w base spare held fuel cs xs F v hl _ _
  obtain rfl : xs = [] := List.eq_nil_of_length_eq_zero hl
  simp [kbulk, Rows.uptoBulkAll]
theorem RdBs.one {P : Program} {t o : Nat} {k : Kd} (hc : P.cellsOf t = k.sz) (h : RdB P t k) : RdBs P [(o, t)] o k := by
  intro H enc w base spare held fuel cs xs F v hl hf hr
  obtain ⟨x, rfl⟩ := List.length_eq_one_iff.1 hl
  have h1 := hf 0 (by simp) (by simp)
  simp only [List.getElem_cons_zero] at h1
  have hlen := Rd.length hr
  rw [List.take_of_length_le (by omega)] at h1
  have := h H enc w base spare held fuel _ _ F v h1 hr
  simpa [Rows.uptoBulkAll] using this
theorem RdBs.cons {P : Program} {t o : Nat} {k c : Kd} {l : List (Nat × Nat)} (hc : P.cellsOf t = k.sz) (h : RdB P t k) (hr : RdBs P l (o + k.sz) c) : RdBs P ((o, t) :: l) o (.pair k c) := by
  intro H enc w base spare held fuel cs xs F v hl hf hv
  cases xs with
  | nil => simp at hl
  | cons x xs =>
    obtain ⟨va, vb, e, hva, hvb⟩ := hv
    have hla := Rd.length hva
    have e1 : (cs.drop o).take k.sz = va := by rw [e, ← hla, List.take_left' rfl]
    have e2 : cs.drop (o + k.sz) = vb := by rw [← List.drop_drop, e, ← hla, List.drop_left' rfl]
    have h1 := hf 0 (by simp) (by simp)
    simp only [List.getElem_cons_zero] at h1
    rw [hc, e1] at h1
    have g1 := h H enc w base spare held fuel _ _ F _ h1 hva
    have g2 := hr H enc w base spare held fuel cs xs F v.2 (by simpa using hl) (fun i q1 q2 => hf (i + 1) (Nat.succ_lt_succ q1) (Nat.succ_lt_succ q2)) (by rw [e2]; exact hvb)
    simp only [kbulk, List.map_cons, Rows.uptoBulkAll]
    omega
theorem RdB.agg {P : Program} {t : TypeId} {fs : Array Field} {c : Kd} {l : List (Nat × Nat)} (ht : P.underlying t = some (.struct fs)) (hl : fs.toList.map (fun f => (f.offset, f.type)) = l) (h : RdBs P l 0 c) : RdB P t (.agg c) := by
  intro H enc w base spare held fuel cs x F v hx hr
  obtain ⟨xs, n, rfl, rfl, hcl, hxl, hf⟩ := DataW.trod_struct ht hx
  have hll : l.length = fs.size := by rw [← hl]; simp
  have := h H enc w base spare held n cs xs F v (by omega) (fun i h1 h2 => by
    have hi' : i < fs.size := by omega
    have h3 := hf i fs[i] (by simp [hi'])
    rw [List.getElem?_eq_getElem h2] at h3
    have e : l[i] = (fs[i].offset, fs[i].type) := by subst hl; simp
    rw [e]
    simpa using h3) hr
  simp only [kbulk, Rows.uptoBulk]
  omega
/-- an argument's bulk -/
theorem RdB.arg {P : Program} {t : TypeId} {k : Kd} (h : RdB P t k) {H : Type} {enc : TypeId × Value → H} {w : World} {base : Nat} {spare : Nat → Bool} {held : Bool} {v : Value} {d : DataW H} {p : List MemPlace} {F : Nat → Prop} {x : k.T}
    (ht : ∃ fuel, DataW.trod enc P w base spare held fuel t v.cells.toList = some (d, p)) (hx : RdV w F k v x) (hv : if k.isAgg then v = .agg v.cells else v.cells = #[v]) : kbulk k x ≤ Rows.uptoBulk d := by
  obtain ⟨fuel, hf⟩ := ht
  obtain ⟨_, vs, h1, h2⟩ := hx
  have : v.cells.toList = vs := by
    unfold valCells at h1
    split at hv
    · rename_i q
      rw [if_pos q] at h1
      subst h1
      simp [Value.cells]
    · rename_i q
      rw [if_neg q] at h1
      subst h1
      rw [hv]
  rw [this] at hf
  exact h H enc w base spare held fuel _ _ F x hf h2
end Go.Proofs.YtonfimidgbppeaaGreatDoor.Ev
