/- The small evaluator's rules for making slices and structs, for append and for conversions are right (this session's own). No condition. -/
import Derived.Test.YtbliiipcjbmbiaaGreatDoorEvW
namespace Go.Proofs.YtbliiipcjbmbiaaGreatDoor.Ev
open Go.RowKit
set_option linter.unusedVariables false
set_option linter.unusedSimpArgs false

variable {P : Program} {J : Inv} {Γ : Ctx} {B : Base} {C : LBase} {βs : List Value} {st : St} {a : Act} {w : World} {obs obs' : List Ob} {wr : Nat → Bool} {tv : TV}
variable (hΓ : CtxOK P J Γ) (h : Rep' P J B βs obs w)

theorem CtxOK.sliceB (hΓ : CtxOK P J Γ) {t : Nat} {e : Kd} {f : List (Nat × Nat)} {k el bytes : Nat} (hk : Γ.ty t = some ⟨.slice e, f, k, el, bytes⟩) : P.underlying t = some (.slice el) ∧ ElOK P el e ∧ ∀ i, P.info? el = some i → i.bytes = bytes := by
  obtain ⟨_, h2⟩ := hΓ.ty _ _ hk
  exact h2

/-- an array whose cells are these elements -/
theorem newArr (h : Rep' P J B βs obs w) {s : Sem Value} {w' : World} {obs1 : List Ob} (h1 : obs1 = obs ∨ ∃ L, L < obs.length ∧ wr L = true ∧ obs1 = obs.set L .dead)
    {e : Kd} {l : List e.T} {c : Array Value} {ty cap : Nat} (hr : s.run P w = .ok (.slice (some ⟨w.heap.size, 0, none⟩) l.length cap) w') (hnew : w'.heap[w.heap.size]? = some (.cells c ty)) (hos : w'.os = w.os) (htp : w'.tape = w.tape) (hout : w'.output = w.output) (hsz : w'.heap.size = w.heap.size + 1)
    (hold : ∀ b, b < w.heap.size → w'.heap[b]? = w.heap[b]?) (hcap : l.length ≤ cap) (hc : cap * e.sz ≤ c.size)
    (hel : ∀ (i : Nat) (hi : i < l.length), ∃ cs : List Value, cs.length = e.sz ∧ (∀ j, j < e.sz → c[i * e.sz + j]? = cs[j]?) ∧ Rd w (Fz B βs obs w) e cs l[i]) : Gives P J B βs obs wr w s (.arr obs.length) (obs1 ++ [.arr e l]) := by
  refine Gives.label h hr (h.fresh h1 hos htp hout (by omega) (fun b hb _ => hold b hb) (fun b hb _ => hold b hb) (fun b _ hb => ?_) (fun hF => .inr ⟨w.heap.size, 0, cap, c, ty, (0, 0), rfl, hnew, NF.zero _, by omega, hcap, fun i hi => ?_⟩))
  · cases hb
    exact ⟨.inl (Nat.le_refl _), by show w.heap.size < _; omega⟩
  · obtain ⟨cs, c1, c2, c3⟩ := hel i hi
    exact ⟨cs, c1, fun j hj => by rw [Nat.zero_add]; exact c2 j hj, Rd.mono hF c3⟩

theorem mk?_some {α : Type} {bytes : Nat} {d : α} {n c : Int} {l : List α} (h : mk? bytes d n c = some l) : n = c ∧ 0 ≤ n ∧ n.toNat * (max bytes 1) ≤ 140737488355328 ∧ l = List.replicate n.toNat d := by
  unfold mk? at h
  split at h
  · rename_i h0; exact ⟨h0.1, h0.2.1, h0.2.2, (Option.some.inj h).symm⟩
  · cases h

include hΓ h in
theorem evMakeSlice_ok {t : Nat} {x y : TV} {v u : Value} (hx : TR P J B βs obs w x v) (hy : TR P J B βs obs w y u) (he : (evMakeSlice Γ t x y obs).To (tv, obs')) : Gives P J B βs obs wr w (Instr.makeSlice t v u) tv obs' := by
  unfold evMakeSlice at he
  split at he
  · rename_i e f k el bytes hk
    obtain ⟨hu, hE, hby⟩ := hΓ.sliceB hk
    split at he
    · rename_i j m j' m'
      obtain rfl := rdv_int hx
      obtain rfl := rdv_int hy
      obtain ⟨l, hl, he⟩ := Res.to_bind he
      obtain ⟨rfl, rfl⟩ := Res.to_nowV he
      obtain ⟨rfl, h0, hlim, rfl⟩ := mk?_some hl
      obtain ⟨i, i1, i2, z, i3, i4⟩ := hE.info
      have hib := hby i i1
      have hz := valCells_cells i4 (Kd.zero_one e)
      have hzs : z.cells.size = e.sz := by rw [← Array.length_toList, hz, Kd.zeroCells_length]
      have hb1 : m.toNat * bytes ≤ 140737488355328 := Nat.le_trans (Nat.mul_le_mul_left _ (Nat.le_max_left _ _)) hlim
      have hb2 : m.toNat ≤ 140737488355328 := by
        have := Nat.mul_le_mul_left m.toNat (Nat.le_max_right bytes 1)
        omega
      have hb3 : (i.bytes : Int) * m ≤ 281474976710656 := by
        have e : (i.bytes : Int) * m = ((m.toNat * bytes : Nat) : Int) := by
          rw [hib, Int.natCast_mul, Int.toNat_of_nonneg h0, Int.mul_comm]
        rw [e]; omega
      have hrun := run_make (P := P) w t el i z hu i1 i3 j j' m m h0 (Int.le_refl _) hb3 (by omega)
      have hlen : (List.replicate m.toNat e.dflt).length = m.toNat := List.length_replicate
      rw [← hlen] at hrun
      obtain ⟨f1, f2, f3⟩ := alloc_facts w (.cells (madeCells z.cells ((List.replicate m.toNat e.dflt).length * i.size)) el)
      refine newArr h (.inl rfl) hrun f2 rfl rfl rfl f1 f3 (Nat.le_refl _) (by rw [size_madeCells, i2]; exact Nat.le_refl _) (fun q hq => ⟨e.zeroCells, Kd.zeroCells_length e, fun p hp => ?_, ?_⟩)
      · rw [hlen] at hq ⊢
        have hlt : q * e.sz + p < m.toNat * i.size := by
          rw [i2]
          have : (q + 1) * e.sz ≤ m.toNat * e.sz := Nat.mul_le_mul_right _ hq
          rw [Nat.add_mul] at this; omega
        have hmod : (q * e.sz + p) % z.cells.size = p := by rw [hzs, Nat.mul_comm, Nat.mul_add_mod, Nat.mod_eq_of_lt hp]
        have hpz : p < z.cells.size := by omega
        have e1 : e.zeroCells[p]? = z.cells[p]? := by rw [← hz, Array.getElem?_toList]
        rw [e1]
        simp [madeCells, hlt, hmod, hpz]
      · rw [List.getElem_replicate]; exact Rd.zero e
    · exact (Res.to_fail he).elim
  · exact (Res.to_fail he).elim

/-! ### literals -/
/-- the values of the parts lie in a row, element by element -/
theorem elems_rep (h : Rep' P J B βs obs w) {obs1 : List Ob} (hs : Step B βs obs wr w βs obs1 w) (hrel : FrzRel obs obs1) {e : Kd} : ∀ {ps : List (Nat × TV)} {vs : List (Nat × Value)} {i : Nat} {l : List e.T},
    elemsOf e i ps obs = some l → ps.length = vs.length → (∀ (j : Nat) (h1 : j < ps.length) (h2 : j < vs.length), ps[j].1 = vs[j].1 ∧ TR P J B βs obs w ps[j].2 vs[j].2) → (∀ q ∈ ps, Still q.2 obs1) →
    l.length = ps.length ∧ ∀ (j : Nat) (h1 : j < l.length) (h2 : j < vs.length), vs[j].1 = i + j ∧ RdV w (Fz B βs obs1 w) e vs[j].2 l[j]
  | [], vs, i, l, he, hl, hr, hst => by
    simp only [elemsOf, Option.some.injEq] at he
    subst he
    exact ⟨rfl, fun j h1 => by cases h1⟩
  | (k, tv) :: ps, [], i, l, he, hl, hr, hst => by simp at hl
  | (k, tv) :: ps, (k', v) :: vs, i, l, he, hl, hr, hst => by
    simp only [elemsOf] at he
    split at he
    · rename_i hik
      split at he
      · rename_i x xs hx hxs
        cases he
        have h0 := hr 0 (by simp) (by simp)
        obtain ⟨g1, g2⟩ := elems_rep h hs hrel hxs (by simpa using hl) (fun j h1 h2 => hr (j + 1) (by simpa using h1) (by simpa using h2)) (fun q hq => hst q (List.mem_cons_of_mem _ hq))
        refine ⟨by simp [g1], fun j h1 h2 => ?_⟩
        cases j with
        | zero =>
          simp only [List.getElem_cons_zero] at h0 ⊢
          exact ⟨by omega, (toVal_behind h hs hrel (hst _ (List.mem_cons_self ..)) h0.2 hx).1⟩
        | succ j =>
          simp only [List.getElem_cons_succ]
          have := g2 j (by simpa using h1) (by simpa using h2)
          exact ⟨by omega, this.2⟩
      · cases he
    · cases he

theorem fold_set (vs : List Value) : ∀ (cells : Array Value) (off : Nat), (vs.toArray.zipIdx.foldl (fun cs (c, j) => cs.setIfInBounds (off + j) c) cells) = putCells cells off vs := by
  intro cells off
  have key : ∀ (vs : List Value) (k : Nat) (cells : Array Value), ((vs.zipIdx k).foldl (fun cs (c, j) => cs.setIfInBounds (off + j) c) cells) = putCells cells (off + k) vs := by
    intro vs
    induction vs with
    | nil => intro k cells; rfl
    | cons v r ih => intro k cells; rw [List.zipIdx_cons, List.foldl_cons, ih, putCells, Nat.add_assoc]
  have := key vs 0 cells
  rw [Nat.add_zero] at this
  rw [← this, ← Array.foldl_toList]
  simp

theorem putCells_list (vs : List Value) (c : Array Value) (o : Nat) (h : o + vs.length ≤ c.size) : (putCells c o vs).toList = spliceAt c.toList o vs := by
  apply List.ext_getElem?
  intro i
  rw [Array.getElem?_toList, putCells_get vs c o i h, spliceAt_get _ _ _ _ (by rw [Array.length_toList]; exact h), Array.getElem?_toList (xs := c)]
theorem fold_cells (v : Value) (cells : Array Value) (off : Nat) : (v.cells.zipIdx.foldl (fun cs (c, j) => cs.setIfInBounds (off + j) c) cells) = putCells cells off v.cells.toList := by
  have := fold_set v.cells.toList cells off
  simpa using this

theorem fill_rows (sz : Nat) : ∀ (vs : List (Nat × Value)) (i : Nat) (cells : Array Value), (∀ (j : Nat) (hj : j < vs.length), vs[j].1 = i + j ∧ vs[j].2.cells.size = sz) → (i + vs.length) * sz ≤ cells.size →
    ∃ cells', Instr.fill (fun i => some (i * sz, sz)) cells vs = some cells' ∧ cells'.size = cells.size ∧ (∀ k, k < i * sz → cells'[k]? = cells[k]?) ∧
      ∀ (j : Nat) (hj : j < vs.length) (p : Nat), p < sz → cells'[(i + j) * sz + p]? = vs[j].2.cells[p]?
  | [], i, cells, _, _ => ⟨cells, rfl, rfl, fun _ _ => rfl, fun j hj => by cases hj⟩
  | (k, v) :: vs, i, cells, hall, hs => by
    obtain ⟨h1, h2⟩ := hall 0 (by simp)
    simp only [List.getElem_cons_zero, Nat.add_zero] at h1 h2
    subst h1
    have hfit : k * sz + sz ≤ cells.size := by
      have : (k + 1) * sz ≤ (k + (vs.length + 1)) * sz := Nat.mul_le_mul_right _ (by omega)
      rw [Nat.add_mul, Nat.one_mul] at this
      simp only [List.length_cons] at hs
      omega
    have hl : v.cells.toList.length = sz := by rw [Array.length_toList]; exact h2
    obtain ⟨cells', e1, e2, e3, e4⟩ := fill_rows sz vs (k + 1) (putCells cells (k * sz) v.cells.toList) (fun j hj => by
      have := hall (j + 1) (by simpa using hj)
      simp only [List.getElem_cons_succ] at this
      exact ⟨by omega, this.2⟩) (by rw [putCells_size]; simp only [List.length_cons] at hs; rw [show k + 1 + vs.length = k + (vs.length + 1) by omega]; exact hs)
    refine ⟨cells', ?_, e2.trans (putCells_size _ _ _), fun q hq => ?_, fun j hj p hp => ?_⟩
    · have hn : ¬ (v.cells.size ≠ sz ∨ cells.size < k * sz + v.cells.size) := by omega
      rw [Instr.fill]
      simp only [fold_cells]
      simp [h2, show ¬ cells.size < k * sz + sz by omega, e1]
    · rw [e3 q (by rw [Nat.add_mul]; omega), putCells_get _ _ _ _ (by omega), if_neg (by omega)]
    · cases j with
      | zero =>
        simp only [List.getElem_cons_zero, Nat.add_zero]
        rw [e3 _ (by rw [Nat.add_mul]; omega), putCells_get _ _ _ _ (by omega), if_pos (by omega), Nat.add_sub_cancel_left, Array.getElem?_toList]
      | succ j =>
        simp only [List.getElem_cons_succ]
        rw [show k + (j + 1) = k + 1 + j by omega]
        exact e4 j (by simpa using hj) p hp

include hΓ h in
theorem evBuildSlice_ok {t n : Nat} {ps : List (Nat × TV)} {vs : List (Nat × Value)} (hl : ps.length = vs.length) (hr : ∀ (j : Nat) (h1 : j < ps.length) (h2 : j < vs.length), ps[j].1 = vs[j].1 ∧ TR P J B βs obs w ps[j].2 vs[j].2)
    (he : (evBuildSlice Γ wr t n ps obs).To (tv, obs')) : Gives P J B βs obs wr w (Instr.buildSlice t n vs.toArray) tv obs' := by
  unfold evBuildSlice at he
  split at he
  · rename_i e hk
    obtain ⟨el, hu, hE⟩ := hΓ.slice hk
    split at he
    · rename_i l obs1 hel hf
      have hs := frzAll_step h hf
      obtain ⟨hrel, hst⟩ := frzAll_rel hf
      have h1 := hs.rep' h
      split at he
      · rename_i hlim
        simp only [Bool.and_eq_true] at hlim
        have hn : ps.length = n := Nat.eq_of_beq_eq_true hlim.1
        have hn2 : n * e.sz ≤ 16777216 := Nat.le_of_ble_eq_true hlim.2
        obtain ⟨rfl, rfl⟩ := Res.to_nowV he
        obtain ⟨g1, g2⟩ := elems_rep h hs hrel hel hl hr (fun q hq => hst _ (List.mem_map.2 ⟨q, hq, rfl⟩))
        obtain ⟨i, i1, i2, z, i3, i4⟩ := hE.info
        have hz := valCells_cells i4 (Kd.zero_one e)
        have hvs : ∀ (j : Nat) (hj : j < vs.length), vs[j].1 = 0 + j ∧ vs[j].2.cells.size = e.sz := fun j hj => by
          obtain ⟨q1, _, us, q2, q3⟩ := g2 j (by omega) hj
          have := valCells_cells q2 (Rd.one q3)
          exact ⟨q1, by rw [← Array.length_toList, this]; exact Rd.length q3⟩
        have hcs : ∃ cells : Array Value, (Sem.run P (if n * e.sz = 0 then pure #[] else do pure (← zeroValue el).cells) w).andThen (fun zz w' => .ok (((Array.range (n * e.sz)).map (fun k => zz[k % zz.size]!))) w') = .ok cells w ∧ cells.size = n * e.sz := by
          by_cases h0 : n * e.sz = 0
          · exact ⟨#[], by simp [h0, Array.range_zero'], by simp [h0]⟩
          · refine ⟨_, by simp [h0, zeroValue, typeInfo, i1, i3]; rfl, by simp⟩
        obtain ⟨cells, hc1, hc2⟩ := hcs
        obtain ⟨cells', e1, e2, e3, e4⟩ := fill_rows e.sz vs 0 cells hvs (by rw [hc2]; simp [← hl, hn])
        have hrun : (Instr.buildSlice t n vs.toArray).run P w = .ok (.slice (some ⟨w.heap.size, 0, none⟩) l.length l.length) (w.alloc (.cells cells' el)) := by
          have hll : l.length = n := by omega
          rw [hll]
          have hnl : ¬ (16777216 < n * e.sz) := by omega
          by_cases h0 : n * e.sz = 0
          · simp [h0, Array.range_zero'] at hc1
            subst hc1
            simp [Instr.buildSlice, run_underlying hu, hE.size, h0, Array.range_zero', e1, newRow]
          · simp [h0, zeroValue, typeInfo, i1, i3] at hc1
            subst hc1
            simp [Instr.buildSlice, run_underlying hu, hE.size, h0, hnl, zeroValue, typeInfo, i1, i3, e1, newRow]
        obtain ⟨f1, f2, f3⟩ := alloc_facts w (.cells cells' el)
        obtain ⟨b, v, w', k1, k2, k3⟩ := newArr (wr := wr) (s := Instr.buildSlice t n vs.toArray) h1 (.inl rfl) hrun f2 rfl rfl rfl f1 f3 (Nat.le_refl _) (by rw [e2, hc2]; exact Nat.mul_le_mul_right _ (by omega)) (fun j hj => by
          obtain ⟨q1, _, us, q2, q3⟩ := g2 j hj (by omega)
          have q4 := valCells_cells q2 (Rd.one q3)
          refine ⟨us, Rd.length q3, fun p hp => ?_, q3⟩
          have := e4 j (by omega) p hp
          rw [Nat.zero_add] at this
          rw [this, ← q4, Array.getElem?_toList])
        exact ⟨b, v, w', k1, hs.trans k2, k3⟩
      · exact (Res.to_fail he).elim
    · exact (Res.to_fail he).elim
  · exact (Res.to_fail he).elim

/-! ### structs -/
theorem fill_rep (hΓ : CtxOK P J Γ) (h : Rep' P J B βs obs w) {obs1 : List Ob} (hs : Step B βs obs wr w βs obs1 w) (hrel : FrzRel obs obs1) {k : Kd} {flds : List (Nat × Nat)} {place : Nat → Option (Nat × Nat)}
    (hp : ∀ f off tf, flds[f]? = some (off, tf) → ∀ kf, kindOf Γ tf = some kf → place f = some (off, kf.sz)) : ∀ {ps : List (Nat × TV)} {vs : List (Nat × Value)} {x y : k.T} {cells : Array Value},
    fillOf Γ k flds ps x obs = some y → ps.length = vs.length → (∀ (j : Nat) (h1 : j < ps.length) (h2 : j < vs.length), ps[j].1 = vs[j].1 ∧ TR P J B βs obs w ps[j].2 vs[j].2) → (∀ q ∈ ps, Still q.2 obs1) →
    Rd w (Fz B βs obs1 w) k cells.toList x → ∃ cells', Instr.fill place cells vs = some cells' ∧ Rd w (Fz B βs obs1 w) k cells'.toList y
  | [], [], x, y, cells, he, _, _, _, hx => by
    simp only [fillOf, Option.some.injEq] at he
    subst he
    exact ⟨cells, rfl, hx⟩
  | [], v :: vs, _, _, _, _, hl, _, _, _ => by simp at hl
  | p :: ps, [], _, _, _, _, hl, _, _, _ => by simp at hl
  | (f, tv) :: ps, (f', v) :: vs, x, y, cells, he, hl, hr, hst, hx => by
    have h0 := hr 0 (by simp) (by simp)
    simp only [List.getElem_cons_zero] at h0
    obtain ⟨rfl, ht⟩ := h0
    simp only [fillOf] at he
    split at he
    · rename_i off tf hf
      split at he
      · rename_i kf hkf
        split at he
        · rename_i g hg
          split at he
          rotate_left
          · cases he
          rename_i u hu
          obtain ⟨_, us, q2, q3⟩ := (toVal_behind h hs hrel (hst _ (List.mem_cons_self ..)) ht hu).1
          have q4 := valCells_cells q2 (Rd.one q3)
          obtain ⟨p0, p3⟩ := updS_rd (w := w) (F := Fz B βs obs1 w) hg
          have q6 := (Kd.sim_facts p0).1
          have q5 : us.length = kf.sz := (Rd.length q3).trans q6
          have hcl : v.cells.size = kf.sz := by rw [← Array.length_toList, q4]; exact q5
          obtain ⟨p1, p2⟩ := p3 hx q3
          rw [q6] at p1
          have hsz := Rd.length hx
          rw [Array.length_toList] at hsz
          have hpl := hp f off tf hf kf hkf
          have hc2 : (putCells cells off v.cells.toList).toList = spliceAt cells.toList off us := by
            rw [q4, putCells_list _ _ _ (by omega)]
          obtain ⟨cells', e1, e2⟩ := fill_rep hΓ h hs hrel hp he (by simpa using hl) (fun j h1 h2 => hr (j + 1) (by simpa using h1) (by simpa using h2)) (fun q hq => hst q (List.mem_cons_of_mem _ hq)) (cells := putCells cells off v.cells.toList) (by rw [hc2]; exact p2)
          refine ⟨cells', ?_, e2⟩
          rw [Instr.fill]
          simp only [hpl, fold_cells]
          simp [hcl, show ¬ cells.size < off + kf.sz by omega, e1]
        · cases he
      · cases he
    · cases he

theorem run_places {fs : Array Field} {flds : List (Nat × Nat)} (hlen : fs.size = flds.length) (hfs : ∀ (f off tf : Nat), flds[f]? = some (off, tf) → ∃ fd, fs[f]? = some fd ∧ fd.offset = off ∧ fd.type = tf ∧ ∃ i, P.info? tf = some i) :
    ∃ pl : Array (Nat × Nat), (fs.mapM (fun (f : Field) => (do pure (f.offset, ← sizeOf f.type) : Sem (Nat × Nat)))).run P w = .ok pl w ∧ ∀ (f off tf : Nat) (i : TypeInfo), flds[f]? = some (off, tf) → P.info? tf = some i → pl[f]? = some (off, i.size) := by
  have key : ∀ (l : List Field) (m : List (Nat × Nat)), l.length = m.length → (∀ (f : Nat) (hf : f < l.length) (hm : f < m.length), l[f].offset = m[f].1 ∧ l[f].type = m[f].2 ∧ ∃ i, P.info? m[f].2 = some i) →
      ∃ pl : List (Nat × Nat), (l.mapM (fun (f : Field) => (do pure (f.offset, ← sizeOf f.type) : Sem (Nat × Nat)))).run P w = .ok pl w ∧ ∀ (f : Nat) (hm : f < m.length) (i : TypeInfo), P.info? m[f].2 = some i → pl[f]? = some (m[f].1, i.size) := by
    intro l
    induction l with
    | nil => intro m hm _; exact ⟨[], rfl, fun f hf => by rw [← hm] at hf; cases hf⟩
    | cons a l ih =>
      intro m hm hall
      cases m with
      | nil => simp at hm
      | cons b m =>
        obtain ⟨pl, h1, h2⟩ := ih m (by simpa using hm) (fun f hf hm' => hall (f + 1) (by simpa using hf) (by simpa using hm'))
        obtain ⟨q1, q2, i, q3⟩ := hall 0 (by simp) (by simp)
        simp only [List.getElem_cons_zero] at q1 q2 q3
        refine ⟨(b.1, i.size) :: pl, ?_, fun f hf i' hi' => ?_⟩
        · simp [List.mapM_cons, sizeOf, typeInfo, q2, q3, q1] at h1 ⊢
          simp [h1]
        · cases f with
          | zero =>
            simp only [List.getElem_cons_zero] at hi' ⊢
            obtain rfl : i = i' := Option.some.inj (q3.symm.trans hi')
            rfl
          | succ f => exact h2 f (by simpa using hf) i' hi'
  obtain ⟨pl, h1, h2⟩ := key fs.toList flds (by rw [Array.length_toList]; exact hlen) (fun f hf hm => by
    obtain ⟨fd, e1, e2, e3, e4⟩ := hfs f flds[f].1 flds[f].2 (List.getElem?_eq_getElem hm)
    rw [Array.length_toList] at hf
    have : fs.toList[f]'(by rw [Array.length_toList]; exact hf) = fd := by
      rw [Array.getElem?_eq_getElem hf] at e1
      simpa using Option.some.inj e1
    rw [this]; exact ⟨e2, e3, e4⟩)
  refine ⟨pl.toArray, ?_, fun f off tf i hf hi => ?_⟩
  · rw [Array.mapM_eq_mapM_toList]
    simp at h1 ⊢
    simp [h1]
  · obtain ⟨hlt, e⟩ := List.getElem?_eq_some_iff.1 hf
    have := h2 f hlt i (by rw [e]; exact hi)
    rw [e] at this
    simpa using this

theorem LeafRep.get {F : Nat → Prop} {cs : List RV} {vs : List Value} (h : LeafRep w F βs cs vs) {i : Nat} {c : RV} {v : Value} (hc : cs[i]? = some c) (hv : vs[i]? = some v) : leafOK c ∧ RVRep w F βs c v := by
  obtain ⟨h1, rfl⟩ := List.getElem?_eq_some_iff.1 hc
  obtain ⟨h2, rfl⟩ := List.getElem?_eq_some_iff.1 hv
  exact h.2 i h1 h2
theorem LeafRep.splice {F : Nat → Prop} {cs m : List RV} {vs us : List Value} {off : Nat} (h : LeafRep w F βs cs vs) (k : LeafRep w F βs m us) (hl : off + m.length ≤ cs.length) : LeafRep w F βs (spliceAt cs off m) (spliceAt vs off us) := by
  have hv : off + us.length ≤ vs.length := by rw [← k.1, ← h.1]; exact hl
  refine ⟨by rw [spliceAt_length _ _ _ hl, spliceAt_length _ _ _ hv, h.1], fun i h1 h2 => ?_⟩
  have e1 := spliceAt_get cs m off i hl
  have e2 := spliceAt_get vs us off i hv
  rw [List.getElem?_eq_getElem h1] at e1
  rw [List.getElem?_eq_getElem h2] at e2
  rw [← k.1] at e2
  by_cases q : off ≤ i ∧ i < off + m.length
  · rw [if_pos q] at e1 e2
    exact k.get e1.symm e2.symm
  · rw [if_neg q] at e1 e2
    exact h.get e1.symm e2.symm
theorem svFill_rep (hΓ : CtxOK P J Γ) (h : Rep' P J B βs obs w) {flds : List (Nat × Nat)} {place : Nat → Option (Nat × Nat)}
    (hp : ∀ f off tf, flds[f]? = some (off, tf) → ∀ kf, kindOf Γ tf = some kf → place f = some (off, kf.sz)) : ∀ {ps : List (Nat × TV)} {vs : List (Nat × Value)} {l l' : List RV} {cells : Array Value},
    svFill Γ flds ps l obs = some l' → ps.length = vs.length → (∀ (j : Nat) (h1 : j < ps.length) (h2 : j < vs.length), ps[j].1 = vs[j].1 ∧ TR P J B βs obs w ps[j].2 vs[j].2) → (∀ u ∈ cells.toList, u.oneCell' = true) →
    LeafRep w (Fz B βs obs w) βs l cells.toList → ∃ cells', Instr.fill place cells vs = some cells' ∧ LeafRep w (Fz B βs obs w) βs l' cells'.toList ∧ cells'.size = cells.size ∧ ∀ u ∈ cells'.toList, u.oneCell' = true
  | [], [], l, l', cells, he, _, _, h1, hx => by
    simp only [svFill, Option.some.injEq] at he
    subst he
    exact ⟨cells, rfl, hx, rfl, h1⟩
  | [], v :: vs, _, _, _, _, hl, _, _, _ => by simp at hl
  | p :: ps, [], _, _, _, _, hl, _, _, _ => by simp at hl
  | (f, tv) :: ps, (f', v) :: vs, l, l', cells, he, hl, hr, hone, hx => by
    have h0 := hr 0 (by simp) (by simp)
    simp only [List.getElem_cons_zero] at h0
    obtain ⟨rfl, ht⟩ := h0
    simp only [svFill] at he
    split at he
    · rename_i off tf hf
      split at he
      · rename_i m ob hb
        split at he
        · rename_i hle
          obtain ⟨_, kf, hkf, hE, us, q1, q2, q3, q4⟩ := boxOf_rep hΓ h ht hb
          have hcl : v.cells.size = kf.sz := by rw [← Array.length_toList, q1]; exact q2
          have hpl := hp f off tf hf kf hkf
          have hsz : cells.size = l.length := by rw [← Array.length_toList, hx.1]
          have hml : m.length = us.length := q4.1
          have hc2 : (putCells cells off v.cells.toList).toList = spliceAt cells.toList off us := by
            rw [q1, putCells_list _ _ _ (by omega)]
          have hone' : ∀ u ∈ (putCells cells off v.cells.toList).toList, u.oneCell' = true := by
            rw [hc2]
            intro u hu
            unfold spliceAt at hu
            rcases List.mem_append.1 hu with hu | hu
            · rcases List.mem_append.1 hu with hu | hu
              · exact hone u (List.mem_of_mem_take hu)
              · exact q3 u hu
            · exact hone u (List.mem_of_mem_drop hu)
          obtain ⟨cells', e1, e2, e3, e4⟩ := svFill_rep hΓ h hp he (by simpa using hl) (fun j h1 h2 => hr (j + 1) (Nat.succ_lt_succ h1) (Nat.succ_lt_succ h2)) (cells := putCells cells off v.cells.toList) hone' (by rw [hc2]; exact hx.splice q4 hle)
          have hs2 : (putCells cells off v.cells.toList).size = cells.size := by
            rw [← Array.length_toList, hc2, spliceAt_length _ _ _ (by have := hx.1; omega), Array.length_toList]
          refine ⟨cells', ?_, e2, by rw [e3, hs2], e4⟩
          rw [Instr.fill]
          simp only [hpl, fold_cells]
          simp [hcl, show ¬ cells.size < off + kf.sz by omega, e1]
        · cases he
      · cases he
    · cases he

include hΓ h in
theorem evBuild_ok {t : Nat} {sv : Bool} {ps : List (Nat × TV)} {vs : List (Nat × Value)} (hl : ps.length = vs.length) (hr : ∀ (j : Nat) (h1 : j < ps.length) (h2 : j < vs.length), ps[j].1 = vs[j].1 ∧ TR P J B βs obs w ps[j].2 vs[j].2)
    (he : (evBuild Γ wr sv t ps obs).To (tv, obs')) : Gives P J B βs obs wr w (Instr.build t vs.toArray) tv obs' := by
  unfold evBuild at he
  split at he
  · rename_i y hy
    split at he
    · rename_i c hc
      split at he
      · split at he
        · rename_i l hfl
          obtain ⟨rfl, rfl⟩ := Res.to_nowV he
          obtain ⟨hE, hsh⟩ := hΓ.ty _ _ hy
          rw [hc] at hE hsh
          obtain ⟨fs, hu, hlen, hfs⟩ := hsh
          obtain ⟨i, i1, i2, z, i3, i4⟩ := hE.info
          have hz := valCells_cells i4 (Kd.zero_one _)
          obtain ⟨pl, hpl1, hpl2⟩ := run_places (w := w) hlen hfs
          obtain ⟨cells', e1, e2, e3, e4⟩ := svFill_rep (place := fun i => pl[i]?) hΓ h (fun f off tf hf kf hkf => by
            obtain ⟨_, _, _, _, i', hi'⟩ := hfs f off tf hf
            obtain ⟨i'', j1, j2, _⟩ := (hΓ.kind hkf).info
            have := hpl2 f off tf i'' hf j1
            rw [j2] at this; exact this) hfl hl hr (cells := z.cells) (by rw [hz]; exact Kd.zero_one _) (by rw [hz]; exact zleaves_rep c)
          have hsz : cells'.toList.length = c.sz := by
            rw [Array.length_toList, e3, ← Array.length_toList, hz]
            exact Kd.zeroCells_length c
          refine Gives.now h (v := .agg cells') ?_ ⟨cells'.toList, by simp, hsz, e4, e2⟩
          simp at hpl1
          simp [Instr.build, zeroValue, typeInfo, i1, i3, run_underlying hu, hpl1, e1]
        · exact (Res.to_fail he).elim
      split at he
      · rename_i x obs1 hfl hf
        have hs := frzAll_step h hf
        obtain ⟨hrel, hst⟩ := frzAll_rel hf
        obtain ⟨rfl, rfl⟩ := Res.to_nowV he
        obtain ⟨hE, hsh⟩ := hΓ.ty _ _ hy
        rw [hc] at hE hsh
        obtain ⟨fs, hu, hlen, hfs⟩ := hsh
        obtain ⟨i, i1, i2, z, i3, i4⟩ := hE.info
        have hz := valCells_cells i4 (Kd.zero_one _)
        obtain ⟨pl, hpl1, hpl2⟩ := run_places (w := w) hlen hfs
        obtain ⟨cells', e1, e2⟩ := fill_rep (place := fun i => pl[i]?) hΓ h hs hrel (fun f off tf hf kf hkf => by
          obtain ⟨_, _, _, _, i', hi'⟩ := hfs f off tf hf
          obtain ⟨i'', j1, j2, _⟩ := (hΓ.kind hkf).info
          have := hpl2 f off tf i'' hf j1
          rw [j2] at this; exact this) hfl hl hr (fun q hq => hst _ (List.mem_map.2 ⟨q, hq, rfl⟩)) (cells := z.cells) (by rw [hz]; exact Rd.zero _)
        refine Gives.froze hs (v := .agg cells') ?_ ⟨rfl, _, by simp [valCells, Kd.isAgg], e2⟩
        simp at hpl1
        simp [Instr.build, zeroValue, typeInfo, i1, i3, run_underlying hu, hpl1, e1]
      · exact (Res.to_fail he).elim
    · exact (Res.to_fail he).elim
  · exact (Res.to_fail he).elim

end Go.Proofs.YtbliiipcjbmbiaaGreatDoor.Ev
