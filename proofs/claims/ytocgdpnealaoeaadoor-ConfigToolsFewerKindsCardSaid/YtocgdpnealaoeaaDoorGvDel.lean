/- slices.Delete of one string as a function of the evaluator (this session's own). No condition. -/
import Derived.Test.YtocgdpnealaoeaaDoorGvTfk
import Derived.Test.YtocgdpnealaoeaaDoorDel
namespace Go.Proofs.YtocgdpnealaoeaaDoor.Ev
open Go Go.Proofs Go.RowKit Go.Lib
set_option maxRecDepth 100000
set_option linter.unusedVariables false
set_option linter.unusedSimpArgs false
theorem str_cells {w : World} {F : Nat → Prop} {l : List ByteArray} {c : Array Value} {off : Nat} (h : ∀ (i : Nat) (h : i < l.length), ∃ cs : List Value, cs.length = Kd.str.sz ∧ (∀ j, j < Kd.str.sz → c[off + (i * Kd.str.sz + j)]? = cs[j]?) ∧ Rd w F .str cs l[i]) :
    ∀ j v, (l.map Value.string)[j]? = some v → c[off + j]? = some v := by
  intro j v hj
  obtain ⟨hl, rfl⟩ := List.getElem?_eq_some_iff.1 hj
  rw [List.length_map] at hl
  obtain ⟨cs, h1, h2, h3⟩ := h j hl
  have h3 : cs = [.string l[j]] := h3
  have := h2 0 (by show 0 < 1; decide)
  rw [h3, show off + (j * Kd.str.sz + 0) = off + j by show off + (j * 1 + 0) = off + j; omega] at this
  rw [this]; simp
theorem str_rows {w : World} {F : Nat → Prop} {l : List ByteArray} {c : Array Value} {off : Nat} (h : ∀ j v, (l.map Value.string)[j]? = some v → c[off + j]? = some v) :
    ∀ (i : Nat) (h : i < l.length), ∃ cs : List Value, cs.length = Kd.str.sz ∧ (∀ j, j < Kd.str.sz → c[off + (i * Kd.str.sz + j)]? = cs[j]?) ∧ Rd w F .str cs l[i] := fun i hi =>
  ⟨[.string l[i]], rfl, fun j hj => by
    have hj : j < 1 := hj
    obtain rfl : j = 0 := by omega
    rw [show off + (i * Kd.str.sz + 0) = off + i by show off + (i * 1 + 0) = off + i; omega]
    exact h i _ (by rw [List.getElem?_map, List.getElem?_eq_getElem hi]; rfl), rfl⟩
def delF (l : List ByteArray) (i j : Int) : Option (List ByteArray) := if 0 ≤ i ∧ j = i + 1 ∧ j ≤ l.length ∧ l.length ≤ 140737488355328 then some (l.eraseIdx i.toNat) else none
def S14 (_ : Nat) (x : PT [.own .str, .val (.int .i64), .val (.int .i64)]) : Option (OT [.own .str]) := delF x.1 x.2.1 x.2.2.1
def F14 : Fn := ⟨[.own .str, .val (.int .i64), .val (.int .i64)], [.own .str], S14⟩
theorem ext_set {B : Base} {b : Nat} (hb : B.n0 ≤ b ∨ B.G b) (vs : List Value) (o : Nat) {w : World} (h : Ext B w) : Ext B (w.setCells b o vs) := by
  refine ⟨(setCells_rest b vs o w).1.trans h.os, (setCells_rest b vs o w).2.1.trans h.tape, (setCells_rest b vs o w).2.2.trans h.output, by rw [setCells_size]; exact h.size, fun k hk hG => ?_⟩
  rw [heap_setCells_other b vs o w k (fun e => by subst e; rcases hb with q | q; exact absurd hk (Nat.not_lt.2 q); exact hG q)]
  exact h.block k hk hG
theorem ext_drew {B : Base} {w : World} (h : Ext B w) : Ext B w.drew := ⟨h.os, h.tape, h.output, h.size, h.block⟩
theorem ext_refl (B : Base) : Ext B B.w0 := ⟨rfl, rfl, rfl, Nat.le_refl _, fun _ _ _ => rfl⟩
theorem del_nums {i j : Int} {n : Nat} (h0 : 0 ≤ i) (h1 : j = i + 1) (h2 : j ≤ n) : j = ((i.toNat + 1 : Nat) : Int) ∧ i.toNat < n := by omega
theorem del_core (B : Base) (v1 : Value) (l : List ByteArray) (i : Nat) (a1 : ObRep B.w0 B.F0 [] v1 (.arr .str l)) (hG : ∀ b ∈ (bOf v1).toList, B.G b ∧ b < B.n0) (hin : i < l.length) (hbig : l.length ≤ 140737488355328) :
    Calls Tryd.prog 14 #[v1, .int .i64 i, .int .i64 ((i + 1 : Nat) : Int)] B.w0 (Post B [.own .str] (l.eraseIdx i)) := by
  rcases a1 with ⟨_, q⟩ | ⟨b, off, cap, c, t, fr, rfl, q2, q3, q4, q5, q6⟩
  · rw [q] at hin; cases hin
  have hcs := str_cells q6
  have hGb : B.G b ∧ b < B.n0 := hG b (by simp [bOf])
  have q4 : off + cap * 1 ≤ c.size := q4
  have q3 : NF fr (c.size + 1) := q3
  have q5 : l.length ≤ cap := q5
  have ml : (l.map Value.string).length = l.length := by simp
  refine (del_walk b off l.length cap i (i + 1) (l.map Value.string) B.w0 rfl hin q5 hbig ml (fun k v hk => by rw [cell_of q2]; exact hcs k v hk) (fun k hk => by
    have := q3 (off + k) (by omega)
    simp only [World.frozen?, q2]
    exact this) (fun v hv => by obtain ⟨s, _, rfl⟩ := List.mem_map.1 hv; rfl)).mono fun e w' ⟨e1, e2⟩ => ?_
  subst e2
  rw [e1]
  have hel : (l.eraseIdx i).length = l.length - 1 := by rw [List.length_eraseIdx_of_lt hin]
  have hdl : ((l.map Value.string).drop (i + 1)).length = l.length - (i + 1) := by rw [List.length_drop, ml]
  have hheap := heap_setCells_same b [ZE] (off + (l.length - 1)) _ (putCells c (off + i) ((l.map Value.string).drop (i + 1))) t fr (heap_setCells_same b ((l.map Value.string).drop (i + 1)) (off + i) B.w0.drew c t fr q2)
  have hx : Ext B ((B.w0.drew.setCells b (off + i) ((l.map Value.string).drop (i + 1))).setCells b (off + (l.length - 1)) [ZE]) := ext_set (.inr hGb.1) _ _ (ext_set (.inr hGb.1) _ _ (ext_drew (ext_refl B)))
  have hbs : b < ((B.w0.drew.setCells b (off + i) ((l.map Value.string).drop (i + 1))).setCells b (off + (l.length - 1)) [ZE]).heap.size := (Array.getElem?_eq_some_iff.1 hheap).1
  refine ⟨[.slice (some ⟨b, off, none⟩) (l.length - 1) cap], rfl, ⟨_, rfl, .inr ⟨b, off, cap, _, t, fr, by rw [hel], hheap, by rw [putCells_size, putCells_size]; exact q3, by rw [putCells_size, putCells_size]; exact q4, by show (l.eraseIdx i).length ≤ cap; omega, str_rows fun j u hu => ?_⟩⟩, by simp [ownRs, bOf], fun q hq => ?_, hx⟩
  · have hlt := (List.getElem?_eq_some_iff.1 hu).1
    rw [List.length_map, hel] at hlt
    rw [List.getElem?_map, List.getElem?_eraseIdx] at hu
    have z1 : ([ZE] : List Value).length = 1 := rfl
    rw [putCells_get _ _ _ _ (by rw [putCells_size, z1]; omega), z1, if_neg (by omega), putCells_get _ _ _ _ (by rw [hdl]; omega), hdl]
    by_cases h : j < i
    · rw [if_neg (by omega)]
      rw [if_pos h, ← List.getElem?_map] at hu
      exact hcs j u hu
    · rw [if_pos (by omega), List.getElem?_drop, show i + 1 + (off + j - (off + i)) = j + 1 by omega, List.getElem?_map]
      rw [if_neg h] at hu
      exact hu
  · have : q = b := by simpa [ownRs, bOf] using hq
    subst this
    exact ⟨.inr hGb.1, hbs⟩
theorem ok14 : FnOK Tryd.prog JS 14 F14 := by
  refine ⟨⟨Tryd.f14, rfl, rfl, by decide⟩, fun k B vals x y hB hargs hnd hG hy => ?_⟩
  obtain ⟨v1, r1, rfl, a1, v2, r2, rfl, a2, v3, r3, rfl, a3, hr⟩ := hargs
  have hr : r3 = [] := hr
  subst hr
  obtain rfl := arg_int a2
  obtain rfl := arg_int a3
  have hy : delF x.1 x.2.1 x.2.2.1 = some y := hy
  unfold delF at hy
  split at hy
  · rename_i hc
    obtain ⟨hi0, hj, hjn, hbig⟩ := hc
    cases hy
    have hi : x.2.1 = ((x.2.1.toNat : Nat) : Int) := (Int.toNat_of_nonneg hi0).symm
    obtain ⟨hj2, hlt⟩ := del_nums hi0 hj hjn
    have eo : ownBs F14.ps [v1, Value.int IntKind.i64 x.2.1, Value.int IntKind.i64 x.2.2.1] = (bOf v1).toList := by simp [F14, ownBs]
    rw [eo] at hnd hG
    have := del_core B v1 x.1 x.2.1.toNat a1 hG hlt hbig
    rw [← hi, ← hj2] at this
    exact this
  · cases hy
end Go.Proofs.YtocgdpnealaoeaaDoor.Ev
