/- From what a row hands over (arguments that read as data) to the words of the print (Kd): for integers, bools, strings, slices and structs, nested. Over any program. -/
import Derived.Test.YtjdfbpjbobmgdaaDoorWMore
import Derived.SizedLaws
import Derived.ChangeArms
import Derived.DataReads
set_option linter.unusedVariables false
namespace Go.Proofs.YtjdfbpjbobmgdaaDoor.Reads
open Go.RowKit Go.Proofs.YtjdfbpjbobmgdaaDoorW.PrintWords Go.Proofs.YtjdfbpjbobmgdaaDoorW.PrintLast Go.Proofs.YtjdfbpjbobmgdaaDoorW.PrintMore

/-- Whatever reads as data at type t is told by the kind d; Wf: what is known of it. -/
def Rd (P : Program) (t : TypeId) {α : Type} (d : Kd α) (Wf : α → Prop) : Prop :=
  ∀ (H : Type) (enc : TypeId × Value → H) (w : World) (base : Nat) (spare : Nat → Bool) (held : Bool) (fuel : Nat) (cs : List Value) (x : DataW H × List MemPlace),
    DataW.trod enc P w base spare held fuel t cs = some x → (∀ n ∈ x.1.weights P t, n ≤ 140737488351232) → ∃ v, d.K w v cs ∧ Wf v
theorem Rd.int {P : Program} {t : TypeId} {k : IntKind} (ht : P.underlying t = some (.int k)) : Rd P t (Kd.int k) (fun n => (Lit.int k n).wf = true) := by
  intro H enc w base spare held fuel cs x h _
  obtain ⟨n, rfl, _, hw⟩ := DataW.trod_int ht h
  exact ⟨n, rfl, hw⟩
theorem Rd.bool {P : Program} {t : TypeId} (ht : P.underlying t = some .bool) : Rd P t Kd.bool (fun _ => True) := by
  intro H enc w base spare held fuel cs x h _
  obtain ⟨n, rfl, _⟩ := DataW.trod_bool ht h
  exact ⟨n, rfl, trivial⟩
theorem Rd.string {P : Program} {t : TypeId} (ht : P.underlying t = some .string) : Rd P t Kd.string (fun s => s.size ≤ 140737488351232) := by
  intro H enc w base spare held fuel cs x h hn
  obtain ⟨s, rfl, rfl, _⟩ := DataW.trod_string ht h
  refine ⟨s, rfl, ?_⟩
  have := hn s.data.toList.length (by simp [DataW.weights])
  simpa using this
theorem build_list {α : Type} {Q : Nat → α → Prop} : ∀ n : Nat, (∀ i, i < n → ∃ p, Q i p) → ∃ l : List α, l.length = n ∧ ∀ i p, l[i]? = some p → Q i p
  | 0, _ => ⟨[], rfl, fun i p h => by simp at h⟩
  | n + 1, h => by
    obtain ⟨l, hl, hq⟩ := build_list n (fun i hi => h i (by omega))
    obtain ⟨p, hp⟩ := h n (by omega)
    refine ⟨l ++ [p], by simp [hl], fun i q hi => ?_⟩
    rw [List.getElem?_append] at hi
    split at hi
    · exact hq i q hi
    · rename_i h1
      have : i = n := by
        have := (List.getElem?_eq_some_iff.1 hi).1
        simp at this
        omega
      subst this
      rw [hl] at hi
      simp at hi
      subst hi
      exact hp
def WfS {α : Type} (B : Nat) (Wf : α → Prop) (l : List α) : Prop := l.length ≤ 9223372036854775807 ∧ l.length * B ≤ 140737488351232 ∧ ∀ x ∈ l, Wf x
theorem weights_all {H : Type} {P : Program} {e : TypeId} {y : DataW H} {n : Nat} (hn : n ∈ y.weights P e) : ∀ {l : List (DataW H)}, y ∈ l → n ∈ DataW.weightsAll P e l
  | z :: l, hy => by
    simp only [DataW.weightsAll, List.mem_append]
    rcases List.mem_cons.1 hy with rfl | hy
    · exact .inl hn
    · exact .inr (weights_all hn hy)
theorem Rd.slice {P : Program} {t e : TypeId} {α : Type} {d : Kd α} {Wf : α → Prop} {B : Nat} (ht : P.underlying t = some (.slice e)) (hsz : P.cellsOf e = d.sz) (hB : P.bytesOf e = B) (he : Rd P e d Wf) : Rd P t (Kd.slice e d) (WfS B Wf) := by
  intro H enc w base spare held fuel cs x h hn
  rcases DataW.trod_slice ht h with ⟨rfl, rfl⟩ | ⟨a, len, cap, elems, rest, n, rfl, rfl, rfl, hb, hl, hc, hel, hread, _, _⟩
  · exact ⟨[], ⟨none, 0, rfl, Nat.le_refl _, Kd.C_nil d w⟩, by simp, by simp, by simp⟩
  · have hlen : (elems.length + rest.length) * B ≤ 140737488351232 := by
      refine hn _ ?_
      simp [DataW.weights, ht, hB]
    obtain ⟨l, hll, hq⟩ := build_list (Q := fun i p => Wf p ∧ ∃ c, c.length = d.sz ∧ d.K w p c ∧ ∀ j u, c[j]? = some u → w.cell? (a.add (i * d.sz + j)) = some u) len (by
      intro i hi
      have h1 := hread i hi
      have hie : i < elems.length := by omega
      rw [List.getElem?_eq_getElem hie] at h1
      obtain ⟨cs', hcs, htr⟩ := Option.bind_eq_some_iff.1 h1
      obtain ⟨v, hK, hW⟩ := he H enc w base spare held n cs' elems[i] htr (fun m hm => hn m (by
        simp only [DataW.weights, ht, List.mem_cons, List.mem_append]
        exact .inr (.inl (weights_all hm (List.mem_map.2 ⟨elems[i], List.getElem_mem hie, rfl⟩)))))
      refine ⟨v, hW, cs', d.K_len hK, hK, fun j u hj => ?_⟩
      obtain ⟨_, hlen', hcell⟩ := World.cells?_some hcs
      have hjl := (List.getElem?_eq_some_iff.1 hj).1
      have := hcell j (by rw [← hlen']; exact hjl)
      rw [hj] at this
      rw [← this, hsz]
      congr 1
      unfold Addr.add
      by_cases h0 : i * d.sz = 0 <;> by_cases h1 : j = 0 <;> simp [h0, h1, Nat.add_assoc])
    refine ⟨l, ⟨some a, cap, by rw [hll], by omega, hll.trans rfl |>.trans (by rw [hll]), ?_, fun _ => ⟨a, rfl, fun i p hp => (hq i p hp).2⟩⟩, ?_, ?_, fun x hx => ?_⟩
    · rw [hll]
      unfold maxLen at hc
      omega
    · rw [hll]
      unfold maxLen at hc
      omega
    · rw [hll]
      have : len * B ≤ (elems.length + rest.length) * B := Nat.mul_le_mul_right _ (by omega)
      omega
    · obtain ⟨i, hi⟩ := List.getElem?_of_mem hx
      exact (hq i x hi).1

end Go.Proofs.YtjdfbpjbobmgdaaDoor.Reads
