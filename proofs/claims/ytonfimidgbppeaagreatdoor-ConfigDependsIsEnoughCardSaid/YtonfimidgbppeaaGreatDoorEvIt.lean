/- maps.Keys and slices.Sorted at keys that are strings, as functions of the evaluator (this session's own; from the shelf's contracts). The conditions stand in each statement. -/
import Derived.Test.YtonfimidgbppeaaGreatDoorEv2
import Derived.Test.YtonfimidgbppeaaGreatDoorEv8
import Derived.Shelf.SlIter.Nil
import Derived.Shelf.SlIter.Sorted
import Derived.Shelf.SortM.Plain
import Derived.Shelf.SortM.SortNone
namespace Go.Proofs.YtonfimidgbppeaaGreatDoor.Ev
open Go.Shelf Go.RowKit Go.Lib Go.Sort Go.Maps Go.WideShapes
set_option linter.unusedVariables false
set_option linter.unusedSimpArgs false
variable {P : Program} {J : Inv} {ρ ρ6 ρM : Ren} {kv : Kd}

theorem fnOK_keys (L : SlLaysZ.n7 P ρ) (hent : ∃ fn, P.funcs[ρ.f 7]? = some fn ∧ fn.body.isSome = true ∧ (fn.name == "runtime.NumGoroutine") = false) :
    FnOK P J (ρ.f 7) ⟨[.val (.map .str kv)], [.val (.iter (ρ.f 10) .str kv)], fun _ x => some (some x.1)⟩ := by
  refine FnOK.given hent fun k w F S x y vals hI hgz hF hargs hy => ?_
  obtain ⟨v1, r1, rfl, a1, hr⟩ := hargs
  have hr : r1 = [] := hr
  subst hr
  cases hy
  have main : ∀ mb : Option Nat, v1 = .map mb → (∀ F' : Nat → Prop, (∀ b, F b → F' b) → (Value.map mb = .map none ∧ x.1 = []) ∨ ∃ r es clock, Value.map mb = .map (some r) ∧ F' r ∧ (w.alloc (.cells #[.map mb] (ρ.t 23))).heap[r]? = some (.map es clock) ∧ (es.size = x.1.length ∧ Go.MapKept.Stamped es clock) ∧
        ∀ (i : Nat) (h : i < x.1.length), ∃ en ck cv, es[i]? = some en ∧ valCells .str ck en.key ∧ valCells kv cv en.val ∧ Rd (w.alloc (.cells #[.map mb] (ρ.t 23))) F' .str ck x.1[i].1 ∧ Rd (w.alloc (.cells #[.map mb] (ρ.t 23))) F' kv cv x.1[i].2) →
      Calls P (ρ.f 7) [v1].toArray w fun e w' => ∃ v, e = .returned v ∧ RdV w' (newF w w' F) (.iter (ρ.f 10) .str kv) v (some x.1) ∧ Below w.heap.size w w' := by
    intro mb hv hm
    subst hv
    refine (callsIn_wide.1 (AnyZ.keys_in L Fence.wide 5 trivial rfl mb w)).mono fun e w' ⟨q1, q2⟩ => ?_
    subst q2
    obtain ⟨f1, f2, f3⟩ := alloc_facts w (.cells #[.map mb] (ρ.t 23))
    refine ⟨_, q1, ⟨rfl, [_], rfl, .inr ⟨w.heap.size, .map mb, x.1, rfl, rfl, .inr ⟨Nat.le_refl _, by omega⟩, ?_, hm _ fun b hb => .inl hb⟩⟩, ?_⟩
    · unfold World.cell?; rw [f2]; rfl
    · exact (Below.refl _ w).alloc (Nat.le_refl _) _
  have hal : ∀ (mb : Option Nat) (F' : Nat → Prop), (∀ b, F b → F' b) → ∀ b, F b → F' b ∧ (w.alloc (.cells #[.map mb] (ρ.t 23))).heap[b]? = w.heap[b]? := fun mb F' h b hb => ⟨h b hb, by
    exact (alloc_facts w _).2.2 b (hF b hb)⟩
  rcases rdv_map a1 with ⟨h1, h2⟩ | ⟨r, h1, h2, es, clock, h3, h4, h5⟩
  · exact main none h1 fun F' _ => .inl ⟨rfl, h2⟩
  · refine main (some r) h1 fun F' hF' => .inr ⟨r, es, clock, rfl, hF' r h2, ((hal (some r) F' hF') r h2).2.trans h3, h4, fun i hi => ?_⟩
    obtain ⟨en, ck, cv, e1, e2, e3, e4, e5⟩ := h5 i hi
    exact ⟨en, ck, cv, e1, e2, e3, Rd.mono (hal (some r) F' hF') e4, Rd.mono (hal (some r) F' hF') e5⟩

def keysOf {α : Type} (m : List (ByteArray × α)) : List (List UInt8) := m.map fun p => p.1.data.toList
def sortedKeys {α : Type} (m : Option (List (ByteArray × α))) : Option (List ByteArray) :=
  match m with
  | none => none
  | some m => if m.length * 16 ≤ 140737488355328 ∧ (∀ p ∈ m, p.1.size ≤ maxLen) then some (((keysOf m).mergeSort leB).map fun l => (⟨l.toArray⟩ : ByteArray)) else none

/-- keys that the walk can read: a map of this datum -/
theorem owns_of {w : World} {F : Nat → Prop} {r : Nat} {m : List (ByteArray × kv.T)} {t : TypeId} (ht : P.underlying t = some .string) {es : Array MapEntry} {clock : Nat} (h1 : w.heap[r]? = some (.map es clock)) (h2 : es.size = m.length) (h3 : Go.MapKept.Stamped es clock)
    (h4 : ∀ (i : Nat) (h : i < m.length), ∃ en ck cv, es[i]? = some en ∧ valCells .str ck en.key ∧ valCells kv cv en.val ∧ Rd w F .str ck m[i].1 ∧ Rd w F kv cv m[i].2) (hlen : m.length ≤ maxLen) (hsz : ∀ p ∈ m, p.1.size ≤ maxLen) :
    ∃ D0 : DataW Unit, w.ownsMap P t (fun _ => some (.nil, [])) r m.length D0 ∧ Maps.size D0 = m.length ∧ (strKeys D0).Perm (keysOf m) := by
  have hkey : ∀ (i : Nat) (h : i < m.length), ∃ en, es.toList[i]? = some en ∧ en.key = .string m[i].1 ∧ keyOf P t en.key = some (.string m[i].1.data.toList) := fun i hi => by
    obtain ⟨en, ck, cv, e1, e2, e3, e4, e5⟩ := h4 i hi
    have e4 : ck = [.string m[i].1] := e4
    have e2 : ck = [en.key] := by simpa [valCells, Kd.isAgg] using e2
    have hk : en.key = .string m[i].1 := by rw [e4] at e2; simpa using e2.symm
    refine ⟨en, by simpa using e1, hk, ?_⟩
    rw [hk]
    have := hsz m[i] (List.getElem_mem hi)
    simp [keyOf, ht, mapKey, this]
  have hrg : es.toList.map (Go.WideElems.rg P t (fun _ => some ((.nil : DataW Unit), []))) = m.map fun p => (Lit.string p.1.data.toList, (DataW.nil : DataW Unit)) := by
    apply List.ext_getElem
    · simp [h2]
    · intro i hi1 hi2
      have hi : i < m.length := by simpa using hi2
      obtain ⟨en, e1, e2, e3⟩ := hkey i hi
      have he : es.toList[i]'(by simpa using hi1) = en := by
        rw [List.getElem?_eq_getElem (by simpa using hi1)] at e1
        exact Option.some.inj e1
      rw [List.getElem_map, List.getElem_map, he]
      exact Go.WideElems.rg_of (by simp [Go.WideElems.rd, e3])
  have hfit : Go.WideElems.Fit P t (fun _ => some ((.nil : DataW Unit), [])) es clock := ⟨by rw [h2]; exact hlen, h3, fun x hx => by
    obtain ⟨i, hi, rfl⟩ := List.getElem_of_mem hx
    have hi' : i < m.length := by simpa [h2] using hi
    obtain ⟨en, e1, e2, e3⟩ := hkey i hi'
    rw [List.getElem?_eq_getElem hi] at e1
    rw [Option.some.inj e1]
    exact ⟨_, by simp [Go.WideElems.rd, e3]; rfl⟩⟩
  refine ⟨_, ⟨es, clock, h1, hfit, by omega, rfl⟩, ?_, ?_⟩
  · rw [hrg]
    show (List.foldr DataW.insert [] _).length = _
    rw [(sorted_perm _).length_eq, List.length_map]
  · rw [hrg]
    show (List.map _ (List.foldr DataW.insert [] _)).Perm _
    refine ((sorted_perm _).map _).trans ?_
    rw [List.map_map]
    exact List.Perm.of_eq rfl

theorem fnOK_sorted (L : SlLaysZ.n7 P ρ) (L6 : SlLaysZ.n6 P ρ6) (LM : SlLaysM.n6 P ρM) (hL10 : SlLaysZ.n10 P ρ) (h96 : ρM.f 6 = ρ6.f 9) (e9 : ∀ args w, (callFunc (ρ6.f 9) args).run P w = .ok (.enter (ρ6.f 9) args) w) (e10 : ∀ args w, (callFunc (ρ.f 10) args).run P w = .ok (.enter (ρ.f 10) args) w)
    (hent : ∃ fn, P.funcs[ρ6.f 6]? = some fn ∧ fn.body.isSome = true ∧ (fn.name == "runtime.NumGoroutine") = false) :
    FnOK P J (ρ6.f 6) ⟨[.val (.iter (ρ.f 10) .str kv)], [.own .str], fun _ x => sortedKeys x.1⟩ := by
  refine FnOK.givenOwn (fun vals => by cases vals <;> rfl) hent fun k w F S x y vals hI hgz hF hargs hy => ?_
  obtain ⟨v1, r1, rfl, a1, hr⟩ := hargs
  have hr : r1 = [] := hr
  subst hr
  obtain ⟨_, vs, q1, q2⟩ := a1
  have q1 : vs = [v1] := by simpa [valCells, Kd.isAgg] using q1
  subst q1
  rcases q2 with ⟨q2, q3⟩ | ⟨bx, v, m, q2, q3, q4, q5, q6⟩
  · have hy : sortedKeys x.1 = some y := hy
    rw [q3] at hy; cases hy
  have q2 : v1 = .func (.func (ρ.f 10)) #[] #[.pointer (some ⟨bx, 0, none⟩)] := by simpa using q2
  subst q2
  have hy : sortedKeys x.1 = some y := hy
  rw [q3] at hy
  unfold sortedKeys at hy
  dsimp only at hy
  split at hy
  rotate_left
  · cases hy
  rename_i hc
  obtain ⟨hc1, hc2⟩ := hc
  cases hy
  have hsort : AnyZ.SortsIn P ρ6 Fence.wide (5 - 1) :=
    ⟨fun blk off cap ss W hH hblk hsz => by rw [← h96]; exact callsIn_wide.2 (AnyM.slices_Sort_string LM blk off cap ss W hH hblk hsz),
     fun p cap W => by rw [← h96]; exact callsIn_wide.2 (AnyM.slices_Sort_string_none LM p cap W)⟩
  have main : ∀ (Sx : List (List UInt8) → Prop) (N : Nat) (hN : N ≤ maxLen) (hNb : N * 16 ≤ 140737488355328), SeqGives Fence.wide (5 - 1 - 1 - 1) P (ρ.f 10) #[.pointer (some ⟨bx, 0, none⟩)] encStr Sx N w → (∀ ss, Sx ss → ss.mergeSort leB = (keysOf m).mergeSort leB) →
      Calls P (ρ6.f 6) [Value.func (.func (ρ.f 10)) #[] #[.pointer (some ⟨bx, 0, none⟩)]].toArray w fun en w' => ∃ v, en = .returned v ∧ ObRep w' F [] v (.arr .str (((keysOf m).mergeSort leB).map fun l => (⟨l.toArray⟩ : ByteArray))) ∧ (∀ b, bOf v = some b → w.heap.size ≤ b ∧ b < w'.heap.size) ∧ Below w.heap.size w w' := by
    intro Sx N hN hNb hseq hS
    refine (callsIn_wide.1 (AnyZ.sorted_in L6 Fence.wide 5 trivial trivial trivial trivial rfl (by omega) hsort e9 (ρ.f 10) #[.pointer (some ⟨bx, 0, none⟩)] trivial e10 Sx N hN hNb w hseq)).mono fun e w' ⟨v, ss, g1, g2, g3, g4, g5⟩ => ?_
    rw [hS ss g2] at g3
    have hl : ss.length = ((keysOf m).mergeSort leB).length := by rw [← hS ss g2]; exact (List.mergeSort_perm ss leB).length_eq.symm
    refine ⟨v, g1, ?_, ?_, g5⟩
    · rcases g3.2 with ⟨rfl, g6⟩ | ⟨g, cap, cur, rfl, g6, g7, g8, g9, g10, g11⟩
      · refine .inl ⟨rfl, ?_⟩
        rw [g6] at hl
        rw [List.eq_nil_of_length_eq_zero hl.symm]; rfl
      · refine .inr ⟨g, 0, cap, cur, _, (0, 0), by rw [List.length_map, ← hl], g7, fun o ho => by simp, by rw [g10]; show 0 + cap * 1 ≤ cap * 1; omega, by rw [List.length_map, ← hl]; exact g8, fun i hi => ?_⟩
        have hi' : i < ((keysOf m).mergeSort leB).length := by simpa using hi
        refine ⟨[.string (⟨(((keysOf m).mergeSort leB)[i]).toArray⟩ : ByteArray)], rfl, fun j hj => ?_, by rw [List.getElem_map]; rfl⟩
        have : j = 0 := by simp only [Kd.sz] at hj; omega
        subst this
        have h12 : (cur.toList.take (ss.length * 1))[i]? = (((keysOf m).mergeSort leB).map encStr)[i]? := by rw [g11]
        rw [List.getElem?_take, if_pos (by omega), List.getElem?_map, List.getElem?_eq_getElem hi'] at h12
        simp only [Kd.sz, Nat.mul_one, Nat.add_zero, Nat.zero_add, List.getElem?_cons_zero]
        rw [← Array.getElem?_toList, h12]; rfl
    · intro b hb
      rcases g3.2 with ⟨rfl, g6⟩ | ⟨g, cap, cur, rfl, g6, g7, g8, g9, g10, g11⟩
      · cases hb
      · cases hb
        exact ⟨g6, (Array.getElem?_eq_some_iff.1 g7).1⟩
  have hbx : bx < w.heap.size := hF bx q4
  rcases q6 with ⟨rfl, hm⟩ | ⟨r, es, clock, rfl, p1, p2, ⟨p3, p3s⟩, p4⟩
  · refine main (fun ss => ss = []) 0 (Nat.zero_le _) (by omega) (AnyZ.keys_gives_nil (ρ := ρ) hL10 Fence.wide _ trivial rfl bx w hbx q5) fun ss hss => ?_
    rw [hss, hm]; rfl
  · obtain ⟨D0, d1, d2, d3⟩ := owns_of (kv := kv) (t := ρ.t 26) hL10.t26 p2 p3 p3s p4 (by unfold maxLen; omega) hc2
    exact main (fun ss => ss.Perm (strKeys D0)) m.length (by unfold maxLen; omega) hc1 (by
      have := AnyZ.keys_gives (ρ := ρ) hL10 Fence.wide 2 trivial rfl (by omega) bx r m.length D0 w hbx q5 d1
      rw [d2] at this; exact this) fun ss hss => mergeSort_of_perm (hss.trans d3)
end Go.Proofs.YtonfimidgbppeaaGreatDoor.Ev
