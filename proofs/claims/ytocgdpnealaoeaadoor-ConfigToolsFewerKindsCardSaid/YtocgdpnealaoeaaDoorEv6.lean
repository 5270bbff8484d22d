/- Contracts of the library as functions of the evaluator (this session's own). No condition. -/
import Derived.Test.YtocgdpnealaoeaaDoorEv5
import Derived.Laws.AppendOwn
import Derived.Lib.SplitLaws
import Derived.Lib.Bytealg
namespace Go.Proofs.YtocgdpnealaoeaaDoor.Ev
open Go.RowKit
set_option linter.unusedVariables false
set_option linter.unusedSimpArgs false

variable {P : Program} {J : Inv}
theorem Below.ext {B : Base} {w' : World} (h : Below B.w0.heap.size B.w0 w') : Ext B w' := ⟨h.os, h.tape, h.output, h.size, fun b hb _ => h.block b hb⟩
theorem Ext.below {w w' : World} {F : Nat → Prop} (h : Ext ⟨w, fun _ => False, F⟩ w') : Below w.heap.size w w' := ⟨h.os, h.tape, h.output, h.size, fun b hb => h.block b hb (fun q => q)⟩

def newF (w w' : World) (F : Nat → Prop) (b : Nat) : Prop := F b ∨ (w.heap.size ≤ b ∧ b < w'.heap.size)
/-- a contract with one result, over plain data -/
theorem FnOK.given {g : Nat} {ps : List Pm} {r : Kd} {f : Nat → PT ps → Option r.T} (henter : ∃ fn, P.funcs[g]? = some fn ∧ fn.body.isSome = true ∧ (fn.name == "runtime.NumGoroutine") = false)
    (h : ∀ (k : Nat) (w : World) (F S : Nat → Prop) (x : PT ps) (y : r.T) (vals : List Value), J.I w → J.gz ≤ w.heap.size → (∀ b, F b → b < w.heap.size) → ArgsRep P J w F S ps x vals → f k x = some y →
      Calls P g vals.toArray w fun e w' => ∃ v, e = .returned v ∧ RdV w' (newF w w' F) r v y ∧ Below w.heap.size w w') : FnOK P J g ⟨ps, [.val r], f⟩ := by
  refine ⟨henter, fun k B vals x y hB hargs hnd hG hy => ?_⟩
  refine (h k B.w0 B.F0 B.S x y vals hB.inv hB.gz (fun b hb => (hB.f0 b hb).1) hargs hy).mono fun e w' ⟨v, h1, h2, h3⟩ => ?_
  refine ⟨[v], h1, ⟨v, rfl, RdV.mono (fun b hb => ⟨?_, rfl⟩) h2⟩, by simp [ownRs], by simp [ownRs], Below.ext h3⟩
  rcases hb with hb | hb
  · exact .inl hb
  · exact .inr ⟨.inl hb.1, hb.2, by simp [ownRs]⟩

/-- a row of strings in a block reads as a list of strings -/
theorem strs_read {w : World} {F : Nat → Prop} {b off cap : Nat} {l : List ByteArray} (hcap : l.length ≤ cap) (hF : F b) (hc : ∀ i (h : i < l.length), w.cell? ⟨b, off + i, none⟩ = some (.string l[i])) : RdV w F (.slice .str) (.slice (some ⟨b, off, none⟩) l.length cap) l := by
  refine ⟨rfl, [_], by simp [valCells, Kd.isAgg], some ⟨b, off, none⟩, cap, rfl, hcap, .inr ⟨⟨b, off, none⟩, rfl, hF, fun i hi => ⟨[.string l[i]], rfl, fun j hj => ?_, rfl⟩⟩⟩
  have : j = 0 := by simp only [Kd.sz] at hj; omega
  subst this
  rw [Addr.add_mid]
  simpa [Kd.sz] using hc i hi
/-- what a slice of strings holds -/
theorem strs_cells {w : World} {F : Nat → Prop} {v : Value} {l : List ByteArray} (h : RdV w F (.slice .str) v l) : (l = [] ∧ ∃ A c, v = .slice A 0 c) ∨ ∃ b off c, v = .slice (some ⟨b, off, none⟩) l.length c ∧ l.length ≤ c ∧ F b ∧ ∀ i (hi : i < l.length), w.cell? ⟨b, off + i, none⟩ = some (.string l[i]) := by
  obtain ⟨_, vs, h1, A, c, h2, h3, h4⟩ := h
  subst h2
  have hv : v = .slice A l.length c := by
    unfold valCells at h1
    simpa [Kd.isAgg] using h1.symm
  subst hv
  rcases h4 with rfl | ⟨ad, rfl, h5, h6⟩
  · exact .inl ⟨rfl, A, c, rfl⟩
  · cases l with
    | nil => exact .inl ⟨rfl, _, c, rfl⟩
    | cons x l' =>
      right
      obtain ⟨b, off, s⟩ := ad
      cases s with
      | some s =>
        obtain ⟨cs, c1, c2, c3⟩ := h6 0 (by simp)
        have := c2 0 (by simp [Kd.sz])
        rw [List.getElem?_eq_getElem (show 0 < cs.length by rw [c1]; simp [Kd.sz])] at this
        simp [Addr.add, World.cell?] at this
        split at this <;> simp at this
      | none =>
        refine ⟨b, off, c, rfl, h3, h5, fun i hi => ?_⟩
        obtain ⟨cs, c1, c2, c3⟩ := h6 i hi
        have h7 := c2 0 (by simp [Kd.sz])
        have c3 : cs = [.string (x :: l')[i]] := c3
        rw [c3, Addr.add_mid] at h7
        simpa [Kd.sz] using h7
theorem ownsRow_strs {w w' : World} {F : Nat → Prop} {e : TypeId} {v : Value} {l : List ByteArray} (h : w'.ownsRow w.heap.size e 1 v l.length (l.map Value.string)) : RdV w' (newF w w' F) (.slice .str) v l := by
  obtain ⟨h1, ⟨rfl, h2⟩ | ⟨g, cap, cur, rfl, h3, h4, h5, h6, h7, h8⟩⟩ := h
  · obtain rfl : l = [] := List.eq_nil_of_length_eq_zero h2
    exact nil_reads _
  · have hg : g < w'.heap.size := by
      rcases Nat.lt_or_ge g w'.heap.size with q | q
      · exact q
      · rw [Array.getElem?_eq_none q] at h4; cases h4
    refine strs_read h5 (.inr ⟨h3, hg⟩) fun i hi => ?_
    rw [cell_of h4, Nat.zero_add]
    have : cur.toList[i]? = some (.string l[i]) := by
      have h9 : (cur.toList.take (l.length * 1))[i]? = (l.map Value.string)[i]? := by rw [h8]
      rw [List.getElem?_take, if_pos (by omega)] at h9
      rw [h9]; simp [hi]
    simpa using this

theorem arg_str {w : World} {F : Nat → Prop} {v : Value} {s : ByteArray} (h : RdV w F .str v s) : v = .string s := by
  obtain ⟨_, vs, h1, h2⟩ := h
  have h2 : vs = [.string s] := h2
  subst h2
  unfold valCells at h1
  simpa [Kd.isAgg] using h1.symm
theorem arg_int {w : World} {F : Nat → Prop} {v : Value} {j : IntKind} {n : Int} (h : RdV w F (.int j) v n) : v = .int j n := by
  obtain ⟨_, vs, h1, h2⟩ := h
  have h2 : vs = [.int j n] := h2
  subst h2
  unfold valCells at h1
  simpa [Kd.isAgg] using h1.symm

/-- the cell of a package variable holds a whole number -/
def cellInv (g : Nat) : Inv where
  I w := ∃ m : Int, w.cell? ⟨g, 0, none⟩ = some (.int .i64 m)
  gz := g + 1
  lasts w w' h hI := by
    obtain ⟨m, hm⟩ := hI
    refine ⟨m, ?_⟩
    have := h g (Nat.lt_succ_self g)
    unfold World.cell? at hm ⊢
    rw [this]; exact hm
theorem fnOK_split {g cell : Nat} (henter : ∃ fn, P.funcs[g]? = some fn ∧ fn.body.isSome = true ∧ (fn.name == "runtime.NumGoroutine") = false) {e : TypeId}
    (h : ∀ (s sep : ByteArray) (m : Int) (w : World), s.size < 4294967281 → w.cell? ⟨cell, 0, none⟩ = some (.int .i64 m) → 1 ≤ sep.size → Calls P g #[.string s, .string sep] w fun en w' =>
      en = .returned (.slice (some ⟨w.heap.size, 0, none⟩) (Lib.countB s sep + 1) (Lib.countB s sep + 1)) ∧ w' = w.alloc (.cells ((Lib.splitB sep 0 (Lib.countB s sep) s).map Value.string).toArray e)) :
    FnOK P (cellInv cell) g ⟨[.val .str, .val .str], [.val (.slice .str)], fun _ x => if x.1.size < 4294967281 ∧ 1 ≤ x.2.1.size then some (Lib.splitB x.2.1 0 (Lib.countB x.1 x.2.1) x.1) else none⟩ := by
  refine FnOK.given henter fun k w F S x y vals hI hgz hF hargs hy => ?_
  obtain ⟨v1, r1, rfl, a1, v2, r2, rfl, a2, hr⟩ := hargs
  have hr : r2 = [] := hr
  subst hr
  obtain rfl := arg_str a1
  obtain rfl := arg_str a2
  obtain ⟨m, hm⟩ := hI
  split at hy
  · rename_i hc
    cases hy
    refine (h x.1 x.2.1 m w hc.1 hm hc.2).mono fun en w' ⟨h1, h2⟩ => ?_
    subst h2
    obtain ⟨f1, f2, f3⟩ := alloc_facts w (.cells ((Lib.splitB x.2.1 0 (Lib.countB x.1 x.2.1) x.1).map Value.string).toArray e)
    have hl := Lib.splitB_all x.2.1 hc.2 0 (Lib.countB x.1 x.2.1) x.1 rfl
    refine ⟨_, h1, ?_, (Below.refl _ _).alloc (Nat.le_refl _) _⟩
    rw [← hl]
    refine strs_read (Nat.le_refl _) (.inr ⟨Nat.le_refl _, by rw [f1]; exact Nat.lt_succ_self _⟩) fun i hi => ?_
    rw [cell_of f2]
    simp [hi]
  · cases hy
theorem fnOK_contains {g cell : Nat} (henter : ∃ fn, P.funcs[g]? = some fn ∧ fn.body.isSome = true ∧ (fn.name == "runtime.NumGoroutine") = false)
    (h : ∀ (s sub : ByteArray) (m : Int) (w : World), s.size < 4294967281 → w.cell? ⟨cell, 0, none⟩ = some (.int .i64 m) → Calls P g #[.string s, .string sub] w fun en w' => en = .returned (.bool (Lib.contains s.data.toList sub.data.toList)) ∧ w' = w) :
    FnOK P (cellInv cell) g ⟨[.val .str, .val .str], [.val .bool], fun _ x => if x.1.size < 4294967281 then some (Lib.contains x.1.data.toList x.2.1.data.toList) else none⟩ := by
  refine FnOK.given henter fun k w F S x y vals hI hgz hF hargs hy => ?_
  obtain ⟨v1, r1, rfl, a1, v2, r2, rfl, a2, hr⟩ := hargs
  have hr : r2 = [] := hr
  subst hr
  obtain rfl := arg_str a1
  obtain rfl := arg_str a2
  obtain ⟨m, hm⟩ := hI
  split at hy
  · rename_i hc
    cases hy
    refine (h x.1 x.2.1 m w hc hm).mono fun en w' ⟨h1, h2⟩ => ?_
    subst h2
    exact ⟨_, h1, ⟨rfl, [_], by simp [valCells, Kd.isAgg], rfl⟩, Below.refl _ _⟩
  · cases hy
theorem fnOK_indexByte {g : Nat} (henter : ∃ fn, P.funcs[g]? = some fn ∧ fn.body.isSome = true ∧ (fn.name == "runtime.NumGoroutine") = false)
    (h : ∀ (s : ByteArray) (c : Int) (w : World), Calls P g #[.string s, .int .u8 c] w fun en w' => en = .returned (.int .i64 (Lib.indexByte s.data.toList c.toNat.toUInt8)) ∧ w' = w) :
    FnOK P J g ⟨[.val .str, .val (.int .u8)], [.val (.int .i64)], fun _ x => some (Lib.indexByte x.1.data.toList x.2.1.toNat.toUInt8)⟩ := by
  refine FnOK.given henter fun k w F S x y vals hI hgz hF hargs hy => ?_
  obtain ⟨v1, r1, rfl, a1, v2, r2, rfl, a2, hr⟩ := hargs
  have hr : r2 = [] := hr
  subst hr
  obtain rfl := arg_str a1
  obtain rfl := arg_int a2
  cases hy
  refine (h x.1 x.2.1 w).mono fun en w' ⟨h1, h2⟩ => ?_
  subst h2
  exact ⟨_, h1, ⟨rfl, [_], by simp [valCells, Kd.isAgg], rfl⟩, Below.refl _ _⟩
theorem fnOK_cloneS {g : Nat} (henter : ∃ fn, P.funcs[g]? = some fn ∧ fn.body.isSome = true ∧ (fn.name == "runtime.NumGoroutine") = false) {e : TypeId}
    (h0 : ∀ (n c : Nat) (w : World), Calls P g #[.slice none n c] w fun en w' => en = .returned (.slice none 0 0) ∧ w' = w)
    (hz : ∀ (a : Addr) (c : Nat) (w : World), Calls P g #[.slice (some a) 0 c] w fun en w' => ∃ v', en = .returned v' ∧ w'.ownsRow w.heap.size e 1 v' 0 [] ∧ v' ≠ .slice none 0 0 ∧ Below w.heap.size w w')
    (h1 : ∀ (b off n c : Nat) (zs : List ByteArray) (w : World), n ≤ zs.length → n * 16 ≤ 140737488355328 → (∀ j, j < zs.length → w.cell? ⟨b, off + j, none⟩ = some (.string (zs.getD j ByteArray.empty))) →
      Calls P g #[.slice (some ⟨b, off, none⟩) n c] w fun en w' => ∃ v', en = .returned v' ∧ w'.ownsRow w.heap.size e 1 v' n ((zs.take n).map Value.string) ∧ v' ≠ .slice none 0 0 ∧ Below w.heap.size w w') :
    FnOK P J g ⟨[.val (.slice .str)], [.val (.slice .str)], fun _ x => if x.1.length * 16 ≤ 140737488355328 then some x.1 else none⟩ := by
  refine FnOK.given henter fun k w F S x y vals hI hgz hF hargs hy => ?_
  obtain ⟨v1, r1, rfl, a1, hr⟩ := hargs
  have hr : r1 = [] := hr
  subst hr
  split at hy
  · rename_i hc
    cases hy
    rcases strs_cells a1 with ⟨q1, A, c, rfl⟩ | ⟨b, off, c, rfl, q2, q3, q4⟩
    · cases A with
      | none =>
        refine (h0 0 c w).mono fun en w' ⟨e1, e2⟩ => ?_
        subst e2
        exact ⟨_, e1, by rw [q1]; exact nil_reads _, Below.refl _ _⟩
      | some a =>
        refine (hz a c w).mono fun en w' ⟨v', e1, e2, _, e3⟩ => ⟨v', e1, ?_, e3⟩
        rw [q1]
        exact ownsRow_strs (l := []) e2
    · refine (h1 b off x.1.length c x.1 w (Nat.le_refl _) hc fun j hj => ?_).mono fun en w' ⟨v', e1, e2, _, e3⟩ => ⟨v', e1, ?_, e3⟩
      · rw [q4 j hj]; simp [hj]
      · rw [List.take_length] at e2
        exact ownsRow_strs e2
  · cases hy

/-- the law's own call -/
theorem law_end {g k : Nat} {ps : List Pm} {S : Nat → PT ps → Option Bool} (h : FnOK P J g ⟨ps, [.val .bool], S⟩) {w : World} {x : PT ps} {vals : List Value} (hI : J.I w) (hgz : J.gz ≤ w.heap.size) (hown : ownBs ps vals = [])
    (hargs : ArgsRep P J w (fun b => b < w.heap.size) (fun b => b < w.heap.size ∧ ¬ False) ps x vals) (hS : S k x = some true) : Calls P g vals.toArray w fun e w' => e = .returned (.bool true) ∧ Below w.heap.size w w' := by
  have := h.ok k ⟨w, fun _ => False, fun b => b < w.heap.size⟩ vals x true ⟨fun b hb => ⟨hb, fun q => q⟩, hI, hgz, fun _ _ q => q⟩ hargs (by rw [hown]; simp) (by rw [hown]; simp) hS
  refine this.mono fun e w' ⟨vs, h1, h2, _, _, h3⟩ => ?_
  obtain ⟨v, rfl, hv⟩ := h2
  refine ⟨?_, Ext.below h3⟩
  rw [h1]
  obtain ⟨_, us, u1, u2⟩ := (show RdV w' _ .bool v true from hv)
  have u2 : us = [.bool true] := u2
  subst u2
  unfold valCells at u1
  have : v = .bool true := by simpa [Kd.isAgg] using u1.symm
  rw [this]; rfl

/-- nothing is asked of the memory -/
def JT : Inv := ⟨fun _ => True, 0, fun _ _ _ _ => trivial⟩

end Go.Proofs.YtocgdpnealaoeaaDoor.Ev
