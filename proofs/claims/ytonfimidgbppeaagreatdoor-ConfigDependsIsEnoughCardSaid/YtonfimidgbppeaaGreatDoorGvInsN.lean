/- slices.Insert of one pair of strings as a function of the evaluator (this session's own). No condition. -/
import Derived.Test.YtonfimidgbppeaaGreatDoorGvCho
import Derived.Test.YtonfimidgbppeaaGreatDoorInsN
namespace Go.Proofs.YtonfimidgbppeaaGreatDoor.Ev
open Go Go.Proofs Go.RowKit Go.Lib
set_option maxRecDepth 100000
set_option linter.unusedVariables false
set_option linter.unusedSimpArgs false
abbrev LP : Type := List (ByteArray × ByteArray)
def cellsOf : LP → List Value
  | [] => []
  | p :: r => .string p.1 :: .string p.2 :: cellsOf r
theorem cellsOf_len : ∀ l : LP, (cellsOf l).length = l.length * 2
  | [] => rfl
  | p :: r => by simp only [cellsOf, List.length_cons, cellsOf_len r]; omega
theorem cellsOf_append : ∀ a b : LP, cellsOf (a ++ b) = cellsOf a ++ cellsOf b
  | [], b => rfl
  | p :: r, b => by simp only [List.cons_append, cellsOf, cellsOf_append r b]
theorem cellsOf_drop : ∀ (l : LP) (i : Nat), cellsOf (l.drop i) = (cellsOf l).drop (i * 2)
  | l, 0 => by simp
  | [], i + 1 => by simp [cellsOf]
  | p :: r, i + 1 => by
    rw [List.drop_succ_cons, cellsOf_drop r i, cellsOf, show (i + 1) * 2 = i * 2 + 1 + 1 by omega, List.drop_succ_cons, List.drop_succ_cons]
theorem cellsOf_take : ∀ (l : LP) (i : Nat), cellsOf (l.take i) = (cellsOf l).take (i * 2)
  | l, 0 => by simp [cellsOf]
  | [], i + 1 => by simp [cellsOf]
  | p :: r, i + 1 => by
    rw [List.take_succ_cons, cellsOf, cellsOf_take r i, cellsOf, show (i + 1) * 2 = i * 2 + 1 + 1 by omega, List.take_succ_cons, List.take_succ_cons]
theorem cellsOf_one (l : LP) : ∀ v ∈ cellsOf l, v.oneCell' = true := by
  induction l with
  | nil => intro v h; cases h
  | cons p r ih =>
    intro v h
    simp only [cellsOf, List.mem_cons] at h
    rcases h with rfl | rfl | h
    · rfl
    · rfl
    · exact ih v h
theorem cellsOf_get : ∀ (l : LP) (i j : Nat) (h : i < l.length), j < 2 → (cellsOf l)[i * 2 + j]? = [Value.string l[i].1, Value.string l[i].2][j]?
  | p :: r, 0, j, h, hj => by
    have : j = 0 ∨ j = 1 := by omega
    rcases this with rfl | rfl <;> rfl
  | p :: r, i + 1, j, h, hj => by
    rw [cellsOf, show (i + 1) * 2 + j = (i * 2 + j) + 1 + 1 by omega, List.getElem?_cons_succ, List.getElem?_cons_succ]
    exact cellsOf_get r i j (by simpa using h) hj
theorem rd_pair {w : World} {F : Nat → Prop} {cs : List Value} {p : ByteArray × ByteArray} (h : Rd w F KPair cs p) : cs = [.string p.1, .string p.2] := by
  obtain ⟨va, vb, rfl, h1, h2⟩ := h
  have h1 : va = [.string p.1] := h1
  have h2 : vb = [.string p.2] := h2
  rw [h1, h2]; rfl
theorem rows_cells {w : World} {F : Nat → Prop} {l : LP} {c : Array Value} {off : Nat} (h : ∀ (i : Nat) (h : i < l.length), ∃ cs : List Value, cs.length = KPair.sz ∧ (∀ j, j < KPair.sz → c[off + (i * KPair.sz + j)]? = cs[j]?) ∧ Rd w F KPair cs l[i]) :
    ∀ j v, (cellsOf l)[j]? = some v → c[off + j]? = some v := by
  intro j v hj
  have hjl : j < l.length * 2 := by
    rw [← cellsOf_len]
    exact (List.getElem?_eq_some_iff.1 hj).1
  obtain ⟨cs, h1, h2, h3⟩ := h (j / 2) (by omega)
  have := h2 (j % 2) (by show j % 2 < 2; omega)
  rw [show off + (j / 2 * KPair.sz + j % 2) = off + j by show off + (j / 2 * 2 + j % 2) = off + j; omega] at this
  rw [this, rd_pair h3, ← cellsOf_get l (j / 2) (j % 2) (by omega) (by omega), show j / 2 * 2 + j % 2 = j by omega]
  exact hj
theorem cells_rows {w : World} {F : Nat → Prop} {l : LP} {c : Array Value} {off : Nat} (h : ∀ j v, (cellsOf l)[j]? = some v → c[off + j]? = some v) :
    ∀ (i : Nat) (h : i < l.length), ∃ cs : List Value, cs.length = KPair.sz ∧ (∀ j, j < KPair.sz → c[off + (i * KPair.sz + j)]? = cs[j]?) ∧ Rd w F KPair cs l[i] := fun i hi => by
  refine ⟨[.string l[i].1, .string l[i].2], rfl, fun j hj => ?_, ⟨[.string l[i].1], [.string l[i].2], rfl, rfl, rfl⟩⟩
  have hj : j < 2 := hj
  have e := cellsOf_get l i j hi hj
  have : ∃ v, [Value.string l[i].1, Value.string l[i].2][j]? = some v := ⟨_, List.getElem?_eq_getElem (by simpa using hj)⟩
  obtain ⟨v, hv⟩ := this
  rw [hv] at e ⊢
  exact h (i * 2 + j) v e
theorem ins_post {B : Base} {w' : World} {b off cap : Nat} {y : LP} {c : Array Value} {t : TypeId} {fr : Nat × Nat} {n : Nat} (hny : n = y.length) (h : w'.heap[b]? = some (.cells c t fr)) (hn : NF fr (c.size + 1)) (hs : off + cap * 2 ≤ c.size) (hl : y.length ≤ cap)
    (hc : ∀ j v, (cellsOf y)[j]? = some v → c[off + j]? = some v) (hb : B.n0 ≤ b ∨ B.G b) (hx : Ext B w') : Post B [.own KPair] y (.returned (.slice (some ⟨b, off, none⟩) n cap)) w' := by
  subst hny
  have hbs : b < w'.heap.size := (Array.getElem?_eq_some_iff.1 h).1
  refine ⟨[.slice (some ⟨b, off, none⟩) y.length cap], rfl, ⟨_, rfl, .inr ⟨b, off, cap, c, t, fr, rfl, h, hn, hs, hl, cells_rows hc⟩⟩, by simp [ownRs, bOf], fun q hq => ?_, hx⟩
  have : q = b := by simpa [ownRs, bOf] using hq
  subst this
  exact ⟨hb, hbs⟩
theorem ext_set {B : Base} {b : Nat} (hb : B.n0 ≤ b ∨ B.G b) (vs : List Value) (o : Nat) {w : World} (h : Ext B w) : Ext B (w.setCells b o vs) := by
  refine ⟨(setCells_rest b vs o w).1.trans h.os, (setCells_rest b vs o w).2.1.trans h.tape, (setCells_rest b vs o w).2.2.trans h.output, by rw [setCells_size]; exact h.size, fun k hk hG => ?_⟩
  rw [heap_setCells_other b vs o w k (fun e => by subst e; rcases hb with q | q; exact absurd hk (Nat.not_lt.2 q); exact hG q)]
  exact h.block k hk hG
theorem ext_drew {B : Base} {w : World} (h : Ext B w) : Ext B w.drew := ⟨h.os, h.tape, h.output, h.size, h.block⟩
theorem ext_refl (B : Base) : Ext B B.w0 := ⟨rfl, rfl, rfl, Nat.le_refl _, fun _ _ _ => rfl⟩
theorem ext_alloc {B : Base} {w : World} (X : Obj) (h : Ext B w) (hs : w.heap.size = B.n0) : Ext B (w.alloc X) := by
  obtain ⟨f1, f2, f3⟩ := alloc_facts w X
  exact ⟨h.os, h.tape, h.output, by rw [f1]; exact Nat.le_trans h.size (Nat.le_succ _), fun k hk hG => (f3 k (by rw [hs]; exact hk)).trans (h.block k hk hG)⟩
def insF (l : LP) (i : Int) (v : LP) : Option LP := if (0 ≤ i ∧ i ≤ l.length) ∧ v.length = 1 ∧ (l.length + 1) * 32 ≤ 140737488355328 then some (l.take i.toNat ++ v ++ l.drop i.toNat) else none
theorem mid_get {cs vs : List Value} {n i : Nat} (hc : cs.length = n * 2) (hv : vs.length = 2) (hi : i ≤ n) {j : Nat} {v : Value} (h : (cs.take (i * 2) ++ vs ++ cs.drop (i * 2))[j]? = some v) :
    (j < i * 2 ∧ cs[j]? = some v) ∨ (i * 2 ≤ j ∧ j < i * 2 + 2 ∧ vs[j - i * 2]? = some v) ∨ (i * 2 + 2 ≤ j ∧ j < n * 2 + 2 ∧ (cs.drop (i * 2))[j - (i * 2 + 2)]? = some v) := by
  have hlt := (List.getElem?_eq_some_iff.1 h).1
  simp only [List.length_append, List.length_take, List.length_drop, hc, hv] at hlt
  have ht : (cs.take (i * 2)).length = i * 2 := by rw [List.length_take]; omega
  rw [List.append_assoc] at h
  by_cases h1 : j < i * 2
  · left
    rw [List.getElem?_append_left (by omega), List.getElem?_take_of_lt h1] at h
    exact ⟨h1, h⟩
  · rw [List.getElem?_append_right (by omega), ht] at h
    by_cases h2 : j < i * 2 + 2
    · rw [List.getElem?_append_left (by omega)] at h
      exact .inr (.inl ⟨by omega, h2, h⟩)
    · rw [List.getElem?_append_right (by omega), hv, show j - i * 2 - 2 = j - (i * 2 + 2) by omega] at h
      exact .inr (.inr ⟨by omega, by omega, h⟩)
theorem cells_mid (l : LP) (i : Nat) (p : ByteArray × ByteArray) : cellsOf (l.take i ++ [p] ++ l.drop i) = (cellsOf l).take (i * 2) ++ cellsOf [p] ++ (cellsOf l).drop (i * 2) := by
  rw [cellsOf_append, cellsOf_append, cellsOf_take, cellsOf_drop]
theorem mid_len (l : LP) {i : Nat} (h : i ≤ l.length) (p : ByteArray × ByteArray) : (l.take i ++ [p] ++ l.drop i).length = l.length + 1 := by
  simp only [List.length_append, List.length_take, List.length_drop, List.length_cons, List.length_nil]; omega
def S112 (_ : Nat) (x : PT [.own KPair, .val (.int .i64), .own KPair]) : Option (OT [.own KPair]) := insF x.1 x.2.1 x.2.2.1
def F112 : Fn := ⟨[.own KPair, .val (.int .i64), .own KPair], [.own KPair], S112⟩
set_option maxHeartbeats 1000000 in
theorem ins_core (B : Base) (v1 v3 : Value) (l : LP) (i : Nat) (p : ByteArray × ByteArray) (a1 : ObRep B.w0 B.F0 [] v1 (.arr KPair l)) (a3 : ObRep B.w0 B.F0 [] v3 (.arr KPair [p]))
    (hnd : ((bOf v1).toList ++ (bOf v3).toList).Nodup) (hG : ∀ b ∈ (bOf v1).toList ++ (bOf v3).toList, B.G b ∧ b < B.n0) (hin : i ≤ l.length) (hbig : (l.length + 1) * 32 ≤ 140737488355328) :
    Calls Tryz.prog 112 #[v1, .int .i64 i, v3] B.w0 (Post B [.own KPair] (l.take i ++ [p] ++ l.drop i)) := by
  have hpl : (cellsOf [p]).length = 2 := rfl
  have hcl := cellsOf_len l
  have hyl := mid_len l hin p
  rcases a3 with ⟨_, q⟩ | ⟨vb, voff, vcap, vc, vt, vfr, rfl, g2, g3, g4, g5, g6⟩
  · cases q
  have hvs : ∀ j u, (cellsOf [p])[j]? = some u → B.w0.cell? ⟨vb, voff + j, none⟩ = some u := fun j u hj => by rw [cell_of g2]; exact rows_cells g6 j u hj
  rcases a1 with ⟨rfl, rfl⟩ | ⟨b, off, cap, c, t, fr, rfl, q2, q3, q4, q5, q6⟩
  · obtain rfl : i = 0 := by simpa using hin
    refine (ins_end_grow none 0 0 vb voff vcap [] (cellsOf [p]) B.w0 (Nat.le_refl _) (by omega) (by omega) rfl rfl (fun _ => rfl) (fun a ha => by cases ha) hvs (cellsOf_one _)).mono fun e w' ⟨e1, e2⟩ => ?_
    obtain ⟨G, hG'⟩ : ∃ G, grownCap B.w0 (0 + 1) 0 39 = G := ⟨_, rfl⟩
    have hGe := grownCap_ge B.w0 (0 + 1) 0 39
    rw [hG'] at e1 e2 hGe
    subst e2
    rw [e1]
    obtain ⟨f1, f2, f3⟩ := alloc_facts B.w0.drew (.cells (([] ++ cellsOf [p]).toArray ++ Builtin.zeroCells Z27.cells (G - (0 + 1))) 39)
    refine ins_post (by rw [hyl]; rfl) f2 (NF.zero _) (by simp [size_zeroCells, Value.cells, hpl]; omega) (by rw [hyl]; exact hGe) (fun j u hj => ?_) (.inl (Nat.le_refl _)) (ext_alloc _ (ext_drew (ext_refl B)) rfl)
    have hjl := (List.getElem?_eq_some_iff.1 hj).1
    rw [cellsOf_len, hyl] at hjl
    rw [Nat.zero_add, Array.getElem?_append_left (by simp [hpl]; simpa using hjl)]
    simpa using hj
  · have hcs : ∀ j u, (cellsOf l)[j]? = some u → c[off + j]? = some u := rows_cells q6
    have hcw : ∀ j u, (cellsOf l)[j]? = some u → B.w0.cell? ⟨b, off + j, none⟩ = some u := fun j u hj => by rw [cell_of q2]; exact hcs j u hj
    have q4 : off + cap * 2 ≤ c.size := q4
    have q3 : NF fr (c.size + 1) := q3
    have g3 : NF vfr (vc.size + 1) := g3
    have g4 : voff + vcap * 2 ≤ vc.size := g4
    have g5 : 1 ≤ vcap := g5
    have hGb : B.G b ∧ b < B.n0 := hG b (by simp [bOf])
    have hGv : B.G vb ∧ vb < B.n0 := hG vb (by simp [bOf])
    have hne : vb ≠ b := fun e => by
      subst e
      simp [bOf] at hnd
    by_cases hroom : l.length + 1 ≤ cap
    · have hsp : ∀ j, j < (l.length + 1) * 2 → (B.w0.cell? ⟨b, off + j, none⟩).isSome = true := fun j hj => by
        rw [cell_of q2, Array.getElem?_eq_getElem (by omega)]; rfl
      have hfz : ∀ j, j < (l.length + 1) * 2 → B.w0.frozen? ⟨b, off + j, none⟩ = false := fun j hj => by
        have := q3 (off + j) (by omega)
        simp only [World.frozen?, q2]
        exact this
      by_cases hend : i = l.length
      · subst hend
        refine (ins_end_room b off l.length cap vb voff vcap (cellsOf [p]) B.w0 hroom (by omega) rfl (fun j hj => by rw [Nat.add_assoc]; exact hsp _ (by omega)) (fun j hj => by rw [Nat.add_assoc]; exact hfz _ (by omega)) hvs (cellsOf_one _)).mono fun e w' ⟨e1, e2⟩ => ?_
        subst e2
        rw [e1]
        refine ins_post hyl.symm (heap_setCells_same b _ _ B.w0 c t fr q2) (by rw [putCells_size]; exact q3) (by rw [putCells_size]; exact q4) (by rw [hyl]; exact hroom) (fun j u hj => ?_) (.inr hGb.1) (ext_set (.inr hGb.1) _ _ (ext_refl B))
        rw [cells_mid] at hj
        rw [putCells_get _ c _ _ (by rw [hpl]; omega), hpl]
        rcases mid_get hcl hpl hin hj with ⟨h1, h2⟩ | ⟨h1, h2, h3⟩ | ⟨h1, h2, h3⟩
        · rw [if_neg (by omega)]; exact hcs j u h2
        · rw [if_pos (by omega), ← h3]; congr 1; omega
        · omega
      · refine (ins_shift b off l.length cap i vb voff vcap (cellsOf l) (cellsOf [p]) B.w0 (by omega) hroom (by omega) hne hcl rfl hcw hsp hfz hvs (cellsOf_one _) (cellsOf_one _) vt t vc.size c.size (by simp [World.shape?, g2]) (by simp [World.shape?, q2]) (by omega)
          (by have := g3 voff (by omega); simp only [World.frozen?, g2]; exact this) (by have := g3 vc.size (by omega); simp only [World.frozen?, g2]; exact this)).mono fun e w' ⟨e1, e2⟩ => ?_
        subst e2
        rw [e1]
        have hdl : ((cellsOf l).drop (i * 2)).length = (l.length - i) * 2 := by rw [List.length_drop, hcl]; omega
        refine ins_post hyl.symm (heap_setCells_same b _ _ _ (putCells c (off + (i + 1) * 2) ((cellsOf l).drop (i * 2))) t fr (heap_setCells_same b _ _ B.w0.drew c t fr q2)) (by rw [putCells_size, putCells_size]; exact q3) (by rw [putCells_size, putCells_size]; exact q4) (by rw [hyl]; exact hroom) (fun j u hj => ?_) (.inr hGb.1) (ext_set (.inr hGb.1) _ _ (ext_set (.inr hGb.1) _ _ (ext_drew (ext_refl B))))
        rw [cells_mid] at hj
        rw [putCells_get _ _ _ _ (by rw [putCells_size, hpl]; omega), hpl]
        rcases mid_get hcl hpl hin hj with ⟨h1, h2⟩ | ⟨h1, h2, h3⟩ | ⟨h1, h2, h3⟩
        · rw [if_neg (by omega), putCells_get _ _ _ _ (by rw [hdl]; omega), if_neg (by omega)]; exact hcs j u h2
        · rw [if_pos (by omega), ← h3]; congr 1; omega
        · rw [if_neg (by omega), putCells_get _ _ _ _ (by rw [hdl]; omega), if_pos (by rw [hdl]; omega), ← h3]; congr 1; omega
    · by_cases hend : i = l.length
      · subst hend
        refine (ins_end_grow (some ⟨b, off, none⟩) l.length cap vb voff vcap (cellsOf l) (cellsOf [p]) B.w0 q5 (by omega) (by omega) hcl rfl (fun h => by cases h) (fun a ha j u hj => by cases ha; rw [Addr.add_lit]; exact hcw j u hj) hvs (cellsOf_one _)).mono fun e w' ⟨e1, e2⟩ => ?_
        obtain ⟨G, hG'⟩ : ∃ G, grownCap B.w0 (l.length + 1) cap 39 = G := ⟨_, rfl⟩
        have hGe := grownCap_ge B.w0 (l.length + 1) cap 39
        rw [hG'] at e1 e2 hGe
        subst e2
        rw [e1]
        obtain ⟨f1, f2, f3⟩ := alloc_facts B.w0.drew (.cells ((cellsOf l ++ cellsOf [p]).toArray ++ Builtin.zeroCells Z27.cells (G - (l.length + 1))) 39)
        refine ins_post hyl.symm f2 (NF.zero _) (by simp [size_zeroCells, Value.cells, hpl, hcl]; omega) (by rw [hyl]; exact hGe) (fun j u hj => ?_) (.inl (Nat.le_refl _)) (ext_alloc _ (ext_drew (ext_refl B)) rfl)
        have hjl := (List.getElem?_eq_some_iff.1 hj).1
        rw [cellsOf_len, hyl] at hjl
        rw [Nat.zero_add, Array.getElem?_append_left (by simp [hpl, hcl]; omega)]
        rw [show l.take l.length ++ [p] ++ l.drop l.length = l ++ [p] by simp, cellsOf_append] at hj
        simpa using hj
      · refine (ins_grow b off l.length cap i vb voff vcap (cellsOf l) (cellsOf [p]) B.w0 (by omega) q5 (by omega) (by omega) hcl rfl hcw hvs (cellsOf_one _) (cellsOf_one _)).mono fun e w' ⟨e1, e2⟩ => ?_
        obtain ⟨G, hG'⟩ : ∃ G, grownCap B.w0 (l.length + 1) cap 39 = G := ⟨_, rfl⟩
        have hGe := grownCap_ge B.w0 (l.length + 1) cap 39
        rw [hG'] at e1 e2 hGe
        subst e2
        rw [e1]
        have hdl : ((cellsOf l).drop (i * 2)).length = (l.length - i) * 2 := by rw [List.length_drop, hcl]; omega
        have htl : ((cellsOf l).take (i * 2)).length = i * 2 := by rw [List.length_take]; omega
        obtain ⟨C, hC⟩ : ∃ C : Array Value, ((cellsOf l).take (i * 2)).toArray ++ Builtin.zeroCells Z27.cells (l.length + 1 - i) ++ Builtin.zeroCells Z27.cells (G - (l.length + 1)) = C := ⟨_, rfl⟩
        have hCs : C.size = G * 2 := by
          rw [← hC]
          simp [size_zeroCells, Value.cells, htl]; omega
        have hCg : ∀ j u, j < i * 2 → (cellsOf l)[j]? = some u → C[j]? = some u := fun j u hj hu => by
          rw [← hC, Array.append_assoc, Array.getElem?_append_left (by simp [htl]; omega)]
          simpa [List.getElem?_take_of_lt hj] using hu
        rw [hC]
        obtain ⟨f1, f2, f3⟩ := alloc_facts B.w0 (.cells C 39)
        refine ins_post hyl.symm (heap_setCells_same _ _ _ _ (putCells C (i * 2) (cellsOf [p])) 39 (0, 0) (heap_setCells_same _ _ _ _ C 39 (0, 0) f2)) (NF.zero _) (by rw [putCells_size, putCells_size, hCs]; omega) (by rw [hyl]; exact hGe) (fun j u hj => ?_) (.inl (Nat.le_refl _)) (ext_set (.inl (Nat.le_refl _)) _ _ (ext_drew (ext_set (.inl (Nat.le_refl _)) _ _ (ext_drew (ext_alloc _ (ext_refl B) rfl)))))
        rw [cells_mid] at hj
        rw [Nat.zero_add, putCells_get _ _ _ _ (by rw [putCells_size, hdl, hCs]; omega), hdl]
        rcases mid_get hcl hpl hin hj with ⟨h1, h2⟩ | ⟨h1, h2, h3⟩ | ⟨h1, h2, h3⟩
        · rw [if_neg (by omega), putCells_get _ _ _ _ (by rw [hpl, hCs]; omega), if_neg (by omega)]; exact hCg j u h1 h2
        · rw [if_neg (by omega), putCells_get _ _ _ _ (by rw [hpl, hCs]; omega), if_pos (by rw [hpl]; omega), ← h3]
        · rw [if_pos (by omega), ← h3]; congr 1; omega
theorem ok112 : FnOK Tryz.prog JS 112 F112 := by
  refine ⟨⟨Tryz.f112, rfl, rfl, by decide⟩, fun k B vals x y hB hargs hnd hG hy => ?_⟩
  obtain ⟨v1, r1, rfl, a1, v2, r2, rfl, a2, v3, r3, rfl, a3, hr⟩ := hargs
  have hr : r3 = [] := hr
  subst hr
  obtain rfl := arg_int a2
  have hy : insF x.1 x.2.1 x.2.2.1 = some y := hy
  unfold insF at hy
  split at hy
  · rename_i hc
    obtain ⟨⟨hi0, hin⟩, hv1, hbig⟩ := hc
    cases hy
    obtain ⟨p, hp⟩ : ∃ p, x.2.2.1 = [p] := List.length_eq_one_iff.1 hv1
    have hi : x.2.1 = ((x.2.1.toNat : Nat) : Int) := (Int.toNat_of_nonneg hi0).symm
    have a3 : ObRep B.w0 B.F0 [] v3 (.arr KPair x.2.2.1) := a3
    rw [hp] at a3 ⊢
    have eo : ownBs F112.ps [v1, Value.int IntKind.i64 x.2.1, v3] = (bOf v1).toList ++ (bOf v3).toList := by simp [F112, ownBs]
    rw [eo] at hnd hG
    have := ins_core B v1 v3 x.1 x.2.1.toNat p a1 a3 hnd hG (by have := hin; have h0 := hi0; exact Int.toNat_le.2 hin) hbig
    rw [← hi] at this
    exact this
  · cases hy
end Go.Proofs.YtonfimidgbppeaaGreatDoor.Ev
