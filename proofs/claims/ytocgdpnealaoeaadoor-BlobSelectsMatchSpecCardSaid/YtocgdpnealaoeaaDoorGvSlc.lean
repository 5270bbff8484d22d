/- slices.Concat of two lists of strings as a function of the evaluator (this session's own): up to 2^48 bytes. No condition. -/
import Derived.Test.YtocgdpnealaoeaaDoorGvSlt
import Derived.Test.YtocgdpnealaoeaaDoorCat
namespace Go.Proofs.YtocgdpnealaoeaaDoor.Ev
open Go Go.Proofs Go.RowKit Go.Lib
set_option maxRecDepth 100000
set_option linter.unusedVariables false
set_option linter.unusedSimpArgs false
theorem strs_src {w : World} {F : Nat → Prop} {x : List ByteArray} {cs : List Value} (h : Rd w F (.slice .str) cs x) : ∃ b c, cs = [.slice b x.length c] ∧
    ∀ w' : World, (∀ a v, w.cell? a = some v → w'.cell? a = some v) → Src Tryd.prog 1 23 (.slice b x.length c) x.length (x.map Value.string) w' := by
  obtain ⟨A, c, rfl, hc, hr⟩ := h
  refine ⟨A, c, rfl, fun w' hk => ?_⟩
  cases A with
  | none =>
    rcases hr with rfl | ⟨ad, q, _⟩
    · exact Src.ofNil w' Tryd.underlying23 c
    · cases q
  | some ad =>
    refine Src.ofSlice w' Tryd.underlying23 ad x.length c _ (by simp) (fun j u hj => ?_) (fun u hu => ?_)
    · obtain ⟨hl, rfl⟩ := List.getElem?_eq_some_iff.1 hj
      rw [List.length_map] at hl
      rcases hr with rfl | ⟨ad', q, _, hr⟩
      · cases hl
      · cases q
        obtain ⟨cs, h1, h2, h3⟩ := hr j hl
        have h3 : cs = [.string x[j]] := h3
        have := h2 0 (by show 0 < 1; decide)
        rw [h3, show j * Kd.str.sz + 0 = j by show j * 1 + 0 = j; omega] at this
        exact hk _ _ (by rw [this]; simp)
    · obtain ⟨b, _, rfl⟩ := List.mem_map.1 hu
      rfl
theorem str_rows {w : World} {F : Nat → Prop} {l : List ByteArray} {c : Array Value} (h : ∀ j v, (l.map Value.string)[j]? = some v → c[0 + j]? = some v) :
    ∀ (i : Nat) (h : i < l.length), ∃ cs : List Value, cs.length = Kd.str.sz ∧ (∀ j, j < Kd.str.sz → c[0 + (i * Kd.str.sz + j)]? = cs[j]?) ∧ Rd w F .str cs l[i] := fun i hi =>
  ⟨[.string l[i]], rfl, fun j hj => by
    have hj : j < 1 := hj
    obtain rfl : j = 0 := by omega
    rw [show i * Kd.str.sz + 0 = i by show i * 1 + 0 = i; omega]
    exact h i _ (by rw [List.getElem?_map, List.getElem?_eq_getElem hi]; rfl), rfl⟩
theorem belowSet {B : Nat} {a : World} {b : Nat} (hb : B ≤ b) : ∀ (vs : List Value) (o : Nat) {w : World}, Below B a w → Below B a (w.setCells b o vs)
  | [], _, _, h => h
  | v :: r, o, w, h => belowSet hb r (o + 1) (h.setCell (p := ⟨b, o, none⟩) hb v)
def catF (x : List (List ByteArray)) : Option (List ByteArray) := match x with
  | [a, b] => if a.length * 16 ≤ 140737488355328 ∧ b.length * 16 ≤ 140737488355328 then some (a ++ b) else none
  | _ => none
def S17 (_ : Nat) (x : PT [.val (.slice (.slice .str))]) : Option (OT [.own .str]) := catF x.1
def F17 : Fn := ⟨[.val (.slice (.slice .str))], [.own .str], S17⟩
theorem ok17 : FnOK Tryd.prog JS 17 F17 := by
  refine FnOK.givenOwn (fun vals => by cases vals <;> rfl) ⟨Tryd.f17, rfl, rfl, by decide⟩ fun k w F S x y vals hI hgz hF hargs hy => ?_
  obtain ⟨v1, r1, rfl, a1, hr⟩ := hargs
  have hr : r1 = [] := hr
  subst hr
  have hy : catF x.1 = some y := hy
  unfold catF at hy
  split at hy
  · rename_i l1 l2 hx
    split at hy
    · rename_i hb
      cases hy
      have a1 : RdV w F (.slice (.slice .str)) v1 x.1 := a1
      rw [hx] at a1
      obtain ⟨_, vs, q1, A, c, q2, q3, q4⟩ := a1
      subst q2
      have hv : v1 = .slice A 2 c := by
        unfold valCells at q1
        simpa [Kd.isAgg] using q1.symm
      subst hv
      rcases q4 with q | ⟨ad, rfl, _, hrow⟩
      · cases q
      obtain ⟨c1, p1, p2, p3⟩ := hrow 0 (by show 0 < 2; decide)
      obtain ⟨c2, o1, o2, o3⟩ := hrow 1 (by show 1 < 2; decide)
      have p3 : Rd w F (.slice .str) c1 l1 := p3
      have o3 : Rd w F (.slice .str) c2 l2 := o3
      obtain ⟨b1, d1, rfl, s1⟩ := strs_src p3
      obtain ⟨b2, d2, rfl, s2⟩ := strs_src o3
      have h0 : w.cell? (ad.add 0) = some (.slice b1 l1.length d1) := p2 0 (by show 0 < 1; decide)
      have h1 : w.cell? (ad.add 1) = some (.slice b2 l2.length d2) := o2 0 (by show 0 < 1; decide)
      obtain ⟨ab, ao, rfl⟩ : ∃ ab ao, ad = ⟨ab, ao, none⟩ := by
        obtain ⟨ab, ao, sp⟩ := ad
        cases sp with
        | none => exact ⟨ab, ao, rfl⟩
        | some q => simp [World.cell?, Addr.add] at h0; split at h0 <;> simp_all
      rw [Addr.add_lit] at h0 h1
      by_cases hpos : 0 < l1.length + l2.length
      · refine (cat_some ab ao c l1.length d1 l2.length d2 b1 b2 (l1.map Value.string) (l2.map Value.string) w h0 h1 s1 s2 hpos hb.1 hb.2 (by simp) (by simp)).mono fun en w' ⟨e1, e2⟩ => ?_
        obtain ⟨G, hG⟩ : ∃ G, G = grownCap w (l1.length + l2.length) 0 9 := ⟨_, rfl⟩
        have hGe : l1.length + l2.length ≤ G := by rw [hG]; exact grownCap_ge w _ _ _
        rw [← hG] at e1 e2
        obtain ⟨ROW, hROW⟩ : ∃ ROW : Array Value, ROW = Builtin.zeroCells ZS.cells (l1.length + l2.length) ++ Builtin.zeroCells ZS.cells (G - (l1.length + l2.length)) := ⟨_, rfl⟩
        have hRs : ROW.size = G := by
          rw [hROW]
          simp [Builtin.zeroCells, Value.cells]
          omega
        rw [← hROW] at e2
        subst e2
        obtain ⟨f1, f2, f3⟩ := alloc_facts w.drew (.cells ROW 9)
        have m1 : (l1.map Value.string).length = l1.length := by simp
        have m2 : (l2.map Value.string).length = l2.length := by simp
        have hheap := heap_setCells_same w.heap.size (l2.map Value.string) l1.length _ (putCells ROW 0 (l1.map Value.string)) 9 (0, 0) (heap_setCells_same w.heap.size (l1.map Value.string) 0 _ ROW 9 (0, 0) f2)
        refine ⟨_, e1, .inr ⟨w.heap.size, 0, G, _, 9, (0, 0), ?_, hheap, NF.zero _, by rw [putCells_size, putCells_size, hRs]; show 0 + G * 1 ≤ G; omega, by show (l1 ++ l2).length ≤ G; rw [List.length_append]; exact hGe, str_rows fun j u hj => ?_⟩, fun b hb => ?_, ?_⟩
        · show Value.slice (some ⟨w.heap.size, 0, none⟩) (l1.length + l2.length) G = Value.slice (some ⟨w.heap.size, 0, none⟩) (l1 ++ l2).length G
          rw [List.length_append]
        · have hj : ((l1 ++ l2).map Value.string)[j]? = some u := hj
          rw [List.map_append] at hj
          have hlt := (List.getElem?_eq_some_iff.1 hj).1
          rw [List.length_append, m1, m2] at hlt
          rw [Nat.zero_add, putCells_get _ _ _ _ (by rw [putCells_size, m2, hRs]; omega), m2]
          by_cases h : j < l1.length
          · rw [if_neg (by omega), putCells_get _ _ _ _ (by rw [m1, hRs]; omega), m1, if_pos (by omega), ← hj, List.getElem?_append_left (by rw [m1]; exact h)]; congr 1
          · rw [if_pos (by omega), ← hj, List.getElem?_append_right (by rw [m1]; omega), m1]
        · have hb : w.heap.size = b := by simpa [bOf] using hb
          subst hb
          refine ⟨Nat.le_refl _, ?_⟩
          rw [setCells_size, setCells_size, f1]
          exact Nat.lt_succ_self _
        · exact belowSet (Nat.le_refl _) _ _ (belowSet (Nat.le_refl _) _ _ ((Below.refl w.heap.size w).drew.alloc (Nat.le_refl _) _))
      · have z1 : l1 = [] := List.eq_nil_of_length_eq_zero (by omega)
        have z2 : l2 = [] := List.eq_nil_of_length_eq_zero (by omega)
        subst z1 z2
        refine (cat_none ab ao c 0 d1 0 d2 b1 b2 w h0 h1 (s1 w fun _ _ h => h) (s2 w fun _ _ h => h)).mono fun en w' ⟨e1, e2⟩ => ?_
        subst e2
        exact ⟨_, e1, .inl ⟨rfl, rfl⟩, fun b hb => by simp [bOf] at hb, Below.refl _ _⟩
    · cases hy
  · cases hy
end Go.Proofs.YtocgdpnealaoeaaDoor.Ev
