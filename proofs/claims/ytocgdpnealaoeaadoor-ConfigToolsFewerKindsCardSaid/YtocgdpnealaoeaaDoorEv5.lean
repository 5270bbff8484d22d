/- From what a row hands over (arguments that read as data) to plain data of the evaluator (this session's own). No condition. -/
import Derived.Test.YtocgdpnealaoeaaDoorEv2
import Derived.SizedLaws
import Derived.ChangeArms
import Derived.DataReads
namespace Go.Proofs.YtocgdpnealaoeaaDoor.Ev
open Go.RowKit
set_option linter.unusedVariables false
set_option linter.unusedSimpArgs false

/-- Whatever reads as data at type t reads as the kind k; Wf: what is known of it. -/
def RdT (P : Program) (t : TypeId) (k : Kd) (Wf : k.T → Prop) : Prop :=
  ∀ (H : Type) (enc : TypeId × Value → H) (w : World) (base : Nat) (spare : Nat → Bool) (held : Bool) (fuel : Nat) (cs : List Value) (x : DataW H × List MemPlace),
    DataW.trod enc P w base spare held fuel t cs = some x → (∀ n ∈ x.1.weights P t, n ≤ 140737488351232) → ∃ v : k.T, Rd w (fun b => b < w.heap.size) k cs v ∧ Wf v
theorem RdT.int {P : Program} {t : TypeId} {k : IntKind} (ht : P.underlying t = some (.int k)) : RdT P t (.int k) (fun n => (Lit.int k n).wf = true) := by
  intro H enc w base spare held fuel cs x h _
  obtain ⟨n, rfl, _, hw⟩ := DataW.trod_int ht h
  exact ⟨n, rfl, hw⟩
theorem RdT.bool {P : Program} {t : TypeId} (ht : P.underlying t = some .bool) : RdT P t .bool (fun _ => True) := by
  intro H enc w base spare held fuel cs x h _
  obtain ⟨n, rfl, _⟩ := DataW.trod_bool ht h
  exact ⟨n, rfl, trivial⟩
theorem RdT.str {P : Program} {t : TypeId} (ht : P.underlying t = some .string) : RdT P t .str (fun s => s.size ≤ 140737488351232) := by
  intro H enc w base spare held fuel cs x h hn
  obtain ⟨s, rfl, rfl, _⟩ := DataW.trod_string ht h
  refine ⟨s, rfl, ?_⟩
  have := hn s.data.toList.length (by simp [DataW.weights])
  simpa using this
theorem build_list {α : Type} {Q : Nat → α → Prop} : ∀ n : Nat, (∀ i, i < n → ∃ p, Q i p) → ∃ l : List α, l.length = n ∧ ∀ i p, l[i]? = some p → Q i p
  | 0, _ => ⟨[], rfl, fun i p h => by simp at h⟩
  | n + 1, h => by
    obtain ⟨l, hl, hq⟩ := build_list n (fun i hi => h i (by omega))
    obtain ⟨p, hp⟩ := h n (by omega)
    refine ⟨l ++ [p], by simp [hl], fun i q hi => ?_⟩
    rw [List.getElem?_append] at hi
    split at hi
    · exact hq i q hi
    · rename_i h1
      have : i = n := by
        have := (List.getElem?_eq_some_iff.1 hi).1
        simp at this
        omega
      subst this
      rw [hl] at hi
      simp at hi
      subst hi
      exact hp
def WfS {α : Type} (B : Nat) (Wf : α → Prop) (l : List α) : Prop := l.length ≤ 9223372036854775807 ∧ l.length * B ≤ 140737488351232 ∧ ∀ x ∈ l, Wf x
theorem weights_all {H : Type} {P : Program} {e : TypeId} {y : DataW H} {n : Nat} (hn : n ∈ y.weights P e) : ∀ {l : List (DataW H)}, y ∈ l → n ∈ DataW.weightsAll P e l
  | z :: l, hy => by
    simp only [DataW.weightsAll, List.mem_append]
    rcases List.mem_cons.1 hy with rfl | hy
    · exact .inl hn
    · exact .inr (weights_all hn hy)
theorem RdT.slice {P : Program} {t e : TypeId} {d : Kd} {Wf : d.T → Prop} {B : Nat} (ht : P.underlying t = some (.slice e)) (hsz : P.cellsOf e = d.sz) (hpos : 0 < d.sz) (hB : P.bytesOf e = B) (he : RdT P e d Wf) : RdT P t (.slice d) (WfS B Wf) := by
  intro H enc w base spare held fuel cs x h hn
  rcases DataW.trod_slice ht h with ⟨rfl, rfl⟩ | ⟨a, len, cap, elems, rest, n, rfl, rfl, rfl, hb, hl, hc, hel, hread, _, _⟩
  · exact ⟨[], ⟨none, 0, rfl, Nat.le_refl _, .inl rfl⟩, by simp, by simp, by simp⟩
  · have hlen : (elems.length + rest.length) * B ≤ 140737488351232 := by
      refine hn _ ?_
      simp [DataW.weights, ht, hB]
    obtain ⟨l, hll, hq⟩ := build_list (Q := fun i p => Wf p ∧ a.block < w.heap.size ∧ ∃ c : List Value, c.length = d.sz ∧ Rd w (fun b => b < w.heap.size) d c p ∧ ∀ j, j < d.sz → w.cell? (a.add (i * d.sz + j)) = c[j]?) len (by
      intro i hi
      have h1 := hread i hi
      have hie : i < elems.length := by omega
      rw [List.getElem?_eq_getElem hie] at h1
      obtain ⟨cs', hcs, htr⟩ := Option.bind_eq_some_iff.1 h1
      obtain ⟨v, hK, hW⟩ := he H enc w base spare held n cs' elems[i] htr (fun m hm => hn m (by
        simp only [DataW.weights, ht, List.mem_cons, List.mem_append]
        exact .inr (.inl (weights_all hm (List.mem_map.2 ⟨elems[i], List.getElem_mem hie, rfl⟩)))))
      obtain ⟨_, hlen', hcell⟩ := World.cells?_some hcs
      have hcl : cs'.length = d.sz := hlen'.trans hsz
      have hadd : ∀ j, (a.add (i * P.cellsOf e)).add j = a.add (i * d.sz + j) := fun j => by
        rw [hsz]
        unfold Addr.add
        by_cases h0 : i * d.sz = 0 <;> by_cases h1 : j = 0 <;> simp [h0, h1, Nat.add_assoc]
      have hc' : ∀ j, j < d.sz → w.cell? (a.add (i * d.sz + j)) = cs'[j]? := fun j hj => by
        rw [← hadd j]; exact hcell j (by rw [hsz]; exact hj)
      refine ⟨v, hW, ?_, cs', hcl, hK, hc'⟩
      have h0 := hc' 0 hpos
      rw [List.getElem?_eq_getElem (show 0 < cs'.length by omega)] at h0
      have hbk : (a.add (i * d.sz + 0)).block = a.block := add_block _ _
      rcases Nat.lt_or_ge a.block w.heap.size with q | q
      · exact q
      · exfalso
        unfold World.cell? at h0
        rw [hbk, Array.getElem?_eq_none q] at h0
        simp at h0)
    refine ⟨l, ⟨some a, cap, by rw [hll], by omega, ?_⟩, ?_, ?_, fun x hx => ?_⟩
    · cases l with
      | nil => exact .inl rfl
      | cons y l' =>
        refine .inr ⟨a, rfl, (hq 0 y rfl).2.1, fun i hi => ?_⟩
        obtain ⟨_, _, c, q1, q2, q3⟩ := hq i _ (List.getElem?_eq_getElem hi)
        exact ⟨c, q1, q3, q2⟩
    · rw [hll]
      unfold maxLen at hc
      omega
    · rw [hll]
      have : len * B ≤ (elems.length + rest.length) * B := Nat.mul_le_mul_right _ (by omega)
      omega
    · obtain ⟨i, hi⟩ := List.getElem?_of_mem hx
      exact (hq i x hi).1

/-- the fields of a struct from a place on -/
def RdFs (P : Program) : List (Nat × Nat) → Nat → (c : Kd) → (c.T → Prop) → Prop := fun l o c Wf =>
  ∀ (H : Type) (enc : TypeId × Value → H) (w : World) (base : Nat) (spare : Nat → Bool) (held : Bool) (fuel : Nat) (cs : List Value), cs.length = o + c.sz →
    (∀ f ∈ l, ∃ x, DataW.trod enc P w base spare held fuel f.2 ((cs.drop f.1).take (P.cellsOf f.2)) = some x ∧ ∀ n ∈ x.1.weights P f.2, n ≤ 140737488351232) → ∃ v : c.T, Rd w (fun b => b < w.heap.size) c (cs.drop o) v ∧ Wf v
theorem RdFs.nil {P : Program} {o : Nat} : RdFs P [] o .unit (fun _ => True) := by
  intro H enc w base spare held fuel cs hl _
  exact ⟨(), List.drop_eq_nil_of_le (by rw [hl]; exact Nat.le_refl _), trivial⟩
theorem RdFs.one {P : Program} {t o : Nat} {k : Kd} {Wf : k.T → Prop} (hc : P.cellsOf t = k.sz) (h : RdT P t k Wf) : RdFs P [(o, t)] o k Wf := by
  intro H enc w base spare held fuel cs hl hf
  obtain ⟨x, h1, h2⟩ := hf (o, t) (List.mem_cons_self ..)
  obtain ⟨v, h3, h4⟩ := h H enc w base spare held fuel _ x h1 h2
  have h3 : Rd w (fun b => b < w.heap.size) k ((cs.drop o).take (P.cellsOf t)) v := h3
  rw [List.take_of_length_le (by rw [List.length_drop, hl, hc]; omega)] at h3
  exact ⟨v, h3, h4⟩
theorem RdFs.cons {P : Program} {t o : Nat} {k c : Kd} {l : List (Nat × Nat)} {Wf : k.T → Prop} {Wc : c.T → Prop} (hc : P.cellsOf t = k.sz) (h : RdT P t k Wf) (hr : RdFs P l (o + k.sz) c Wc) : RdFs P ((o, t) :: l) o (.pair k c) (fun x => Wf x.1 ∧ Wc x.2) := by
  intro H enc w base spare held fuel cs hl hf
  obtain ⟨x, h1, h2⟩ := hf (o, t) (List.mem_cons_self ..)
  obtain ⟨v, h3, h4⟩ := h H enc w base spare held fuel _ x h1 h2
  obtain ⟨u, h5, h6⟩ := hr H enc w base spare held fuel cs (by rw [hl]; simp only [Kd.sz]; omega) (fun f hf' => hf f (List.mem_cons_of_mem _ hf'))
  refine ⟨(v, u), ⟨(cs.drop o).take k.sz, cs.drop (o + k.sz), ?_, ?_, h5⟩, h4, h6⟩
  · rw [← List.drop_drop, List.take_append_drop]
  · rw [← hc]; exact h3
theorem weights_each {H : Type} {P : Program} {n : Nat} : ∀ {ts : List TypeId} {l : List (DataW H)} {i : Nat} {t : TypeId} {y : DataW H}, ts[i]? = some t → l[i]? = some y → n ∈ y.weights P t → n ∈ DataW.weightsEach P ts l
  | [], _, i, t, y, h, _, _ => by cases h
  | _ :: _, [], i, t, y, _, h, _ => by cases h
  | u :: ts, d :: l, i, t, y, h1, h2, hn => by
    simp only [DataW.weightsEach, List.mem_append]
    cases i with
    | zero =>
      simp at h1 h2
      subst h1
      subst h2
      exact .inl hn
    | succ i => exact .inr (weights_each (i := i) (by simpa using h1) (by simpa using h2) hn)
theorem RdT.agg {P : Program} {t : TypeId} {fs : Array Field} {c : Kd} {l : List (Nat × Nat)} {Wf : c.T → Prop} (ht : P.underlying t = some (.struct fs)) (hl : fs.toList.map (fun f => (f.offset, f.type)) = l) (hc : P.cellsOf t = c.sz) (h : RdFs P l 0 c Wf) : RdT P t (.agg c) Wf := by
  intro H enc w base spare held fuel cs x hx hn
  obtain ⟨xs, n, rfl, rfl, hcl, hxl, hf⟩ := DataW.trod_struct ht hx
  obtain ⟨v, h1, h2⟩ := h H enc w base spare held n cs (by rw [hcl, hc, Nat.zero_add]) (fun f hfm => by
    rw [← hl] at hfm
    obtain ⟨fd, hfd, rfl⟩ := List.mem_map.1 hfm
    obtain ⟨i, hi, rfl⟩ := List.getElem_of_mem hfd
    have hi' : i < fs.size := by simpa using hi
    have h3 := hf i fs[i] (by simp [hi'])
    have hix : i < xs.length := by omega
    rw [List.getElem?_eq_getElem hix] at h3
    refine ⟨xs[i], by simpa using h3, fun m hm => hn m ?_⟩
    simp only [DataW.weights, ht]
    refine weights_each (i := i) (t := fs[i].type) (y := xs[i].1) (by simp [hi']) (by simp [hix]) ?_
    simpa using hm)
  exact ⟨v, h1, h2⟩

/-- plain data as an argument -/
theorem RdT.arg {P : Program} {t : TypeId} {k : Kd} {Wf : k.T → Prop} (h : RdT P t k Wf) (hk : k.isVal = true) {H : Type} {enc : TypeId × Value → H} {w : World} {base : Nat} {spare : Nat → Bool} {held : Bool} {v : Value} {d : DataW H} {p : List MemPlace}
    (hv : if k.isAgg then v = .agg v.cells else v.cells = #[v]) (ht : ∃ fuel, DataW.trod enc P w base spare held fuel t v.cells.toList = some (d, p)) (hn : ∀ n ∈ d.weights P t, n ≤ 140737488351232) : ∃ x : k.T, RdV w (fun b => b < w.heap.size) k v x ∧ Wf x := by
  obtain ⟨fuel, hf⟩ := ht
  obtain ⟨x, h1, h2⟩ := h H enc w base spare held fuel _ _ hf hn
  refine ⟨x, ⟨hk, v.cells.toList, ?_, h1⟩, h2⟩
  unfold valCells
  split at hv
  · rename_i q
    rw [if_pos q]; simpa using hv
  · rename_i q
    rw [if_neg q, hv]

end Go.Proofs.YtocgdpnealaoeaaDoor.Ev
