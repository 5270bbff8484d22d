/- The small evaluator's rules for variables in memory are right (this session's own). No condition. -/
import Derived.Test.YtbliiipcjbmbiaaGreatDoorEvM
namespace Go.Proofs.YtbliiipcjbmbiaaGreatDoor.Ev
open Go.RowKit
set_option linter.unusedVariables false
set_option linter.unusedSimpArgs false

variable {P : Program} {J : Inv} {Γ : Ctx} {B : Base} {C : LBase} {βs : List Value} {st : St} {a : Act} {w : World} {obs obs' : List Ob} {wr : Nat → Bool} {tv : TV}
variable (hΓ : CtxOK P J Γ) (h : Rep' P J B βs obs w)

/-! ### cells set in a row -/
def putCells (c : Array Value) : Nat → List Value → Array Value
  | _, [] => c
  | o, v :: r => putCells (c.setIfInBounds o v) (o + 1) r
theorem putCells_size : ∀ (vs : List Value) (c : Array Value) (o : Nat), (putCells c o vs).size = c.size
  | [], _, _ => rfl
  | v :: r, c, o => by rw [putCells, putCells_size r]; simp
theorem putCells_get : ∀ (vs : List Value) (c : Array Value) (o i : Nat), o + vs.length ≤ c.size → (putCells c o vs)[i]? = if o ≤ i ∧ i < o + vs.length then vs[i - o]? else c[i]?
  | [], c, o, i, _ => by rw [putCells, if_neg (by simp <;> omega)]
  | v :: r, c, o, i, hs => by
    rw [putCells, putCells_get r _ _ _ (by simp at hs ⊢; omega)]
    simp only [List.length_cons] at hs ⊢
    by_cases h1 : o + 1 ≤ i ∧ i < o + 1 + r.length
    · rw [if_pos h1, if_pos (by omega)]
      obtain ⟨k, rfl⟩ : ∃ k, i = o + 1 + k := ⟨i - (o + 1), by omega⟩
      rw [show o + 1 + k - (o + 1) = k by omega, show o + 1 + k - o = k + 1 by omega]
      simp
    · rw [if_neg h1]
      by_cases h2 : i = o
      · subst h2
        rw [if_pos (by omega)]
        simp only [Nat.sub_self, List.getElem?_cons_zero]
        rw [Array.getElem?_setIfInBounds_self_of_lt (by omega)]
      · rw [if_neg (by omega), Array.getElem?_setIfInBounds_ne (by omega)]
theorem heap_setCells_same (b : Nat) : ∀ (vs : List Value) (o : Nat) (w : World) (c : Array Value) (t : TypeId) (fr : Nat × Nat), w.heap[b]? = some (.cells c t fr) → (w.setCells b o vs).heap[b]? = some (.cells (putCells c o vs) t fr)
  | [], _, _, _, _, _, h => h
  | v :: r, o, w, c, t, fr, h => by
    rw [World.setCells, putCells]
    refine heap_setCells_same b r (o + 1) _ _ t fr ?_
    simp [World.setCell, Array.getElem?_modify, h]
theorem heap_setCells_other (b : Nat) : ∀ (vs : List Value) (o : Nat) (w : World) (k : Nat), k ≠ b → (w.setCells b o vs).heap[k]? = w.heap[k]?
  | [], _, _, _, _ => rfl
  | v :: r, o, w, k, h => by
    rw [World.setCells, heap_setCells_other b r _ _ k h]
    exact Below.heap_setCell w _ v k h
theorem setCells_size (b : Nat) : ∀ (vs : List Value) (o : Nat) (w : World), (w.setCells b o vs).heap.size = w.heap.size
  | [], _, _ => rfl
  | v :: r, o, w => by rw [World.setCells, setCells_size b r]; simp [World.setCell]
theorem setCells_rest (b : Nat) : ∀ (vs : List Value) (o : Nat) (w : World), (w.setCells b o vs).os = w.os ∧ (w.setCells b o vs).tape = w.tape ∧ (w.setCells b o vs).output = w.output
  | [], _, _ => ⟨rfl, rfl, rfl⟩
  | v :: r, o, w => by rw [World.setCells]; exact setCells_rest b r _ _

theorem run_storeVar {t b o : Nat} {k : Kd} {v : Value} {c : Array Value} {ty : TypeId} {fr : Nat × Nat} (hE : ElOK P t k) (hb : w.heap[b]? = some (.cells c ty fr)) (hn : NF fr c.size) (hsz : o + k.sz ≤ c.size)
    (hv : v.cells.size = k.sz) (h1 : ∀ u ∈ v.cells.toList, u.oneCell' = true) :
    (Instr.storeAt t (.pointer (some ⟨b, o, none⟩)) v).run P w = .ok () (w.setCells b o v.cells.toList) := by
  have hl : v.cells.toList.length = k.sz := by rw [Array.length_toList]; exact hv
  have := run_storeCells_cells (P := P) b o v.cells.toList 0 w (fun j hj => by
      rw [cell_of hb, Array.getElem?_eq_getElem (show o + 0 + j < c.size by omega)]; rfl)
    (fun j hj => by
      have := hn (o + 0 + j) (by omega)
      simp only [World.frozen?, hb]
      exact this) h1
  simp only [Nat.add_zero] at this
  simp [Instr.storeAt, Instr.sureAddr, storeVar, hE.size, hv, this]
theorem run_loadVar {t b o : Nat} {k : Kd} {cs : List Value} (hE : ElOK P t k) (hl : cs.length = k.sz) (hc : ∀ j, j < k.sz → w.cell? ⟨b, o + j, none⟩ = cs[j]?) :
    ∃ v, (Instr.loadAt t (.pointer (some ⟨b, o, none⟩))).run P w = .ok v w ∧ valCells k cs v := by
  obtain ⟨d, hd, hrow⟩ := hE.row
  have hag := run_isAgg (w := w) hd
  rw [hrow] at hag
  cases hA : k.isAgg with
  | true =>
    rw [hA] at hag
    refine ⟨.agg cs.toArray, ?_, by simp [valCells, hA]⟩
    have hlc := run_loadCells_list (P := P) w ⟨b, o, none⟩ cs (fun j v hj => by
      have hj' := (List.getElem?_eq_some_iff.1 hj).1
      rw [Addr.add_mid, hc j (by omega)]; exact hj)
    rw [hl] at hlc
    simp [Instr.loadAt, Instr.sureAddr, loadVar, hag, hE.size, hlc]
  | false =>
    rw [hA] at hag
    have h1 : k.sz = 1 := by
      have := hE.isVal
      cases k <;> simp_all [Kd.isVal, Kd.sz, Kd.isAgg]
    rw [h1] at hl
    obtain ⟨u, rfl⟩ := List.length_eq_one_iff.1 hl
    have := hc 0 (by omega)
    simp only [Nat.add_zero, List.getElem?_cons_zero] at this
    exact ⟨u, by simp [Instr.loadAt, Instr.sureAddr, loadVar, hag, this], by simp [valCells, hA]⟩
theorem valCells_cells {k : Kd} {cs : List Value} {v : Value} (hv : valCells k cs v) (h1 : ∀ u ∈ cs, u.oneCell' = true) : v.cells.toList = cs := by
  unfold valCells at hv
  split at hv
  · subst hv; rfl
  · subst hv
    have := h1 v (by simp)
    cases v <;> first | rfl | (simp [Value.oneCell'] at this)

/-! ### a new variable -/
theorem alloc_facts (w : World) (o : Obj) : (w.alloc o).heap.size = w.heap.size + 1 ∧ (w.alloc o).heap[w.heap.size]? = some o ∧ ∀ b, b < w.heap.size → (w.alloc o).heap[b]? = w.heap[b]? :=
  ⟨by simp, heap_alloc_new w o, fun b hb => heap_alloc_old w o b hb⟩
theorem NF.zero (n : Nat) : NF (0, 0) n := fun o _ => by simp
theorem LeafRep.mono {F F' : Nat → Prop} {w' : World} {βs' : List Value} (hw : ∀ b, F b → F' b ∧ w'.heap[b]? = w.heap[b]?) (hl : βs.length ≤ βs'.length) (hb : ∀ L, L < βs.length → bv βs' L = bv βs L)
    {cs : List RV} {vs : List Value} (h : LeafRep w F βs cs vs) : LeafRep w' F' βs' cs vs := ⟨h.1, fun i h1 h2 => ⟨(h.2 i h1 h2).1, (h.2 i h1 h2).2.mono hw hl hb⟩⟩

/-- a variable with these cells -/
theorem newBox (h : Rep' P J B βs obs w) {s : Sem Value} {cs : List RV} {vs : List Value} {ty : Nat} (hl : LeafRep w (Fz B βs obs w) βs cs vs)
    (hr : s.run P w = .ok (.pointer (some ⟨w.heap.size, 0, none⟩)) (w.alloc (.cells vs.toArray ty))) : Gives P J B βs obs wr w s (.ptr obs.length 0) (obs ++ [.box cs]) := by
  obtain ⟨f1, f2, f3⟩ := alloc_facts w (.cells vs.toArray ty)
  refine ⟨βs ++ [.pointer (some ⟨w.heap.size, 0, none⟩)], _, _, hr, h.fresh (.inl rfl) rfl rfl rfl (by omega) (fun b hb _ => f3 b hb) (fun b hb _ => f3 b hb) (fun b _ hb => ?_) (fun hF => ?_), ⟨by simp [h.obs.len], w.heap.size, ?_, rfl⟩⟩
  · cases hb
    exact ⟨.inl (Nat.le_refl _), by show w.heap.size < _; omega⟩
  · have hl' := hl.mono hF (βs' := βs ++ [.pointer (some ⟨w.heap.size, 0, none⟩)]) (by simp) (fun L hL => by rw [bv_append, if_pos hL])
    exact ⟨w.heap.size, vs.toArray, ty, (0, 0), rfl, f2, NF.zero _, by simp [hl.1], fun i hi => by
      have hi' : i < vs.length := by rw [← hl.1]; exact hi
      have := hl'.2 i hi hi'
      simpa [hi'] using this⟩
  · rw [bv_append, h.obs.len, if_neg (by omega), if_pos rfl]

theorem ElOK.one {t : Nat} {k : Kd} (hE : ElOK P t k) (hA : k.isAgg = false) : k.sz = 1 := by
  have := hE.isVal
  cases k <;> simp_all [Kd.isVal, Kd.sz, Kd.isAgg]
theorem Kd.zero_one : ∀ (k : Kd), ∀ v ∈ k.zeroCells, v.oneCell' = true := fun k => Rd.one (Rd.zero (w := default) (Fz := fun _ => True) k)

include hΓ h in
theorem evAlloc_ok {t : Nat} (he : (evAlloc Γ t obs).To (tv, obs')) : Gives P J B βs obs wr w (Instr.alloc t true (.tuple #[])) tv obs' := by
  unfold evAlloc at he
  split at he
  · rename_i k hk
    obtain ⟨rfl, rfl⟩ := Res.to_nowV he
    have hE := hΓ.kind hk
    obtain ⟨i, h1, h2, z, h3, h4⟩ := hE.info
    have hz := valCells_cells h4 (Kd.zero_one k)
    refine newBox h (zleaves_rep k) (ty := t) ?_
    have hzz : z.cells = k.zeroCells.toArray := by rw [← hz]
    simp [Instr.alloc, zeroValue, typeInfo, h1, h3, newVar, newRow, hzz]
  · exact (Res.to_fail he).elim

/-- a slot's content, for the cells of a variable -/
theorem castW_agg {k c : Kd} {x : k.T} {y : (Kd.agg c).T} (h : Kd.castW k (.agg c) x = some y) : ∃ c', k = .agg c' := by
  cases k with
  | agg c' => exact ⟨c', rfl⟩
  | _ => simp [Kd.castW, Kd.eq?, Kd.conv] at h
theorem boxOf_rep (hΓ : CtxOK P J Γ) (h : Rep' P J B βs obs w) {t : Nat} {x : TV} {v : Value} {cs : List RV} {obs1 : List Ob} (hx : TR P J B βs obs w x v) (he : boxOf Γ t x obs = some (cs, obs1)) :
    obs1 = obs ∧ ∃ k, kindOf Γ t = some k ∧ ElOK P t k ∧ ∃ vs : List Value, v.cells.toList = vs ∧ vs.length = k.sz ∧ (∀ u ∈ vs, u.oneCell' = true) ∧ LeafRep w (Fz B βs obs w) βs cs vs := by
  unfold boxOf at he
  split at he
  · rename_i c hk
    split at he
    · rename_i c' l
      split at he
      · rename_i e _
        cases he
        obtain rfl := e.down
        obtain ⟨vs, rfl, q1, q2, q3⟩ := hx
        exact ⟨rfl, _, hk, hΓ.kind hk, vs, by simp [Value.cells], q1, q2, q3⟩
      · cases he
    · rename_i c' d
      split at he
      · rename_i hs
        cases he
        obtain ⟨vs, rfl, hr⟩ := rdv_agg hx
        refine ⟨rfl, _, hk, hΓ.kind hk, vs, rfl, ?_, Rd.one (k := .agg c') hr, leaves_rep (k := .agg c') hr⟩
        rw [Rd.length (k := .agg c') hr]
        exact (Kd.sim_facts hs).1
      · cases he
    · rename_i hns hnv
      split at he
      · rename_i d hd
        cases he
        have hE := hΓ.kind hk
        refine ⟨rfl, _, hk, hE, ?_⟩
        cases x with
        | cst us =>
          obtain rfl : v = .agg us.toArray := hx
          have hr := constV_rep (w := w) (F := Fz B βs obs w) (k := .agg c) hd
          obtain ⟨vs, e1, hr⟩ := rdv_agg hr
          rw [e1]
          exact ⟨vs, rfl, Rd.length (k := .agg c) hr, Rd.one (k := .agg c) hr, leaves_rep (k := .agg c) hr⟩
        | val k' y =>
          obtain ⟨c', rfl⟩ := castW_agg hd
          exact absurd rfl (hnv c' y)
        | arr L =>
          simp only [toVal] at hd
          split at hd
          · obtain ⟨e1, _⟩ := Kd.cast_some hd; cases e1
          · obtain ⟨e1, _⟩ := Kd.cast_some hd; cases e1
          · cases hd
        | map L =>
          simp only [toVal] at hd
          split at hd
          · obtain ⟨e1, _⟩ := Kd.cast_some hd; cases e1
          · obtain ⟨e1, _⟩ := Kd.cast_some hd; cases e1
          · cases hd
        | nilk e =>
          simp only [toVal] at hd
          obtain ⟨c', e1⟩ := castW_agg hd; cases e1
        | _ => simp [toVal, constV] at hd
      · cases he
  · rename_i k hna hk
    have hE := hΓ.kind hk
    split at he
    · rename_i r hr
      cases he
      have hA : k.isAgg = false := by
        cases k <;> first | rfl | exact absurd rfl (hna _)
      refine ⟨rfl, k, hk, hE, ?_⟩
      have h1 := hE.one hA
      have fin : ∀ {v : Value}, v.oneCell' = true → leafOK r → RVRep w (Fz B βs obs w) βs r v → ∃ vs : List Value, v.cells.toList = vs ∧ vs.length = k.sz ∧ (∀ u ∈ vs, u.oneCell' = true) ∧ LeafRep w (Fz B βs obs w) βs [r] vs := by
        intro v hv h0 h2
        refine ⟨[v], ?_, by simp [h1], by simpa using hv, LeafRep.one h0 h2⟩
        cases v <;> first | rfl | (simp [Value.oneCell'] at hv)
      unfold toLeaf at hr
      split at hr
      · rename_i k' y
        split at hr
        · rename_i hy
          cases hr
          have hA' : k'.isAgg = false := by rw [(Kd.sim_facts hy).2.1]; exact hA
          have hv : RdV w (Fz B βs obs w) k' v y := hx
          obtain ⟨_, vs, q1, q2⟩ := id hv
          have q1 : vs = [v] := by unfold valCells at q1; rw [hA'] at q1; simpa using q1
          exact fin (Rd.one q2 v (by rw [q1]; simp)) hA' hv
        · cases hr
      · split at hr
        · cases hr
          rw [show v = _ from hx]
          exact fin rfl trivial rfl
        · cases hr
          rw [show v = _ from hx]
          exact fin rfl rfl (nil_readsO _)
        · cases hr
      · cases hr
        rw [show v = _ from hx]
        exact fin rfl trivial rfl
      · rename_i L
        obtain ⟨hL, hv⟩ := id hx
        have hob := h.obs.rep L hL
        have hsl : v.oneCell' = true ∧ r = .arr L := by
          split at hr
          · rename_i e l ho
            rw [ho] at hob
            split at hr
            · cases hr
              refine ⟨?_, rfl⟩
              rcases hob with ⟨q, _⟩ | ⟨b, off, cap, c, tt, fr, q, _⟩ <;> rw [hv, q] <;> rfl
            · cases hr
          · rename_i e l ho
            rw [ho] at hob
            split at hr
            · cases hr
              refine ⟨?_, rfl⟩
              obtain ⟨A, c, q, _⟩ := rdv_slice hob
              rw [hv, q]; rfl
            · cases hr
          · cases hr
        obtain ⟨hsl, rfl⟩ := hsl
        exact fin hsl trivial hx
      · rename_i L
        obtain ⟨hL, hv⟩ := id hx
        have hob := h.obs.rep L hL
        have hsl : v.oneCell' = true ∧ r = .map L := by
          split at hr
          · rename_i kk kv m ho
            rw [ho] at hob
            split at hr
            · cases hr
              refine ⟨?_, rfl⟩
              obtain ⟨q, q1, _⟩ := hob
              rw [hv, q1]; rfl
            · cases hr
          · rename_i kk kv m ho
            rw [ho] at hob
            split at hr
            · cases hr
              refine ⟨?_, rfl⟩
              rcases rdv_map hob with ⟨q, _⟩ | ⟨q, q1, _⟩
              · rw [hv, q]; rfl
              · rw [hv, q1]; rfl
            · cases hr
          · cases hr
        obtain ⟨hsl, rfl⟩ := hsl
        exact fin hsl trivial hx
      · split at hr
        · cases hr
          obtain ⟨q1, b, q2, q3⟩ := id hx
          exact fin (by rw [q3]; rfl) trivial ⟨q1, b, q2, q3⟩
        · cases hr
      · split at hr
        · cases hr
          obtain ⟨q1, q2⟩ := id hx
          exact fin (by rw [q2]; rfl) trivial ⟨q1, q2⟩
        · cases hr
      · cases hr
    · cases he
  · cases he

include hΓ h in
theorem evBox_ok {t : Nat} {x : TV} {v : Value} (hx : TR P J B βs obs w x v) (he : (evBox Γ t x obs).To (tv, obs')) : Gives P J B βs obs wr w (Instr.box t v) tv obs' := by
  unfold evBox at he
  split at he
  · rename_i cs obs1 hb
    obtain ⟨rfl, rfl⟩ := Res.to_nowV he
    obtain ⟨rfl, k, hk, hE, vs, h1, h2, h3, h4⟩ := boxOf_rep hΓ h hx hb
    refine newBox h h4 (ty := t) ?_
    have hc : v.cells = vs.toArray := by rw [← h1]
    simp [Instr.box, newVar, newRow, hc]
  · exact (Res.to_fail he).elim

theorem Step.own_keep {βs1 : List Value} {obs1 : List Ob} {w1 : World} (h : Rep' P J B βs obs w) (s : Step B βs obs wr w βs1 obs1 w1) (b : Nat) (hb : Fz B βs obs w b) : Fz B βs1 obs1 w1 b ∧ w1.heap[b]? = w.heap[b]? := by
  have h1 := h.notOwn hb
  refine ⟨?_, s.block b h1.1 h1.2⟩
  rcases hb with hb | hb
  · exact .inl hb
  · refine .inr ⟨hb.1, Nat.lt_of_lt_of_le hb.2.1 s.size, fun hn => ?_⟩
    rcases (s.own b hn).1 with h2 | h2
    · exact h1.2 h2
    · omega

/-- and memory stays as it is -/
def GivesN (P : Program) (J : Inv) (B : Base) (βs : List Value) (obs : List Ob) (wr : Nat → Bool) (w : World) (s : Sem Value) (tv : TV) (obs' : List Ob) : Prop :=
  ∃ v, s.run P w = .ok v w ∧ Step B βs obs wr w βs obs' w ∧ TVRep P J w (Fz B βs obs' w) B.S βs tv v
theorem GivesN.now (h : Rep' P J B βs obs w) {s : Sem Value} {v : Value} (hr : s.run P w = .ok v w) (ht : TVRep P J w (Fz B βs obs w) B.S βs tv v) : GivesN P J B βs obs wr w s tv obs :=
  ⟨v, hr, h.step_refl _, ht⟩
theorem GivesN.froze {obs1 : List Ob} {s : Sem Value} {v : Value} (hs : Step B βs obs wr w βs obs1 w) (hr : s.run P w = .ok v w) (ht : TVRep P J w (Fz B βs obs1 w) B.S βs tv v) : GivesN P J B βs obs wr w s tv obs1 :=
  ⟨v, hr, hs, ht⟩
theorem GivesN.gives {s : Sem Value} (h : GivesN P J B βs obs wr w s tv obs') : Gives P J B βs obs wr w s tv obs' := by
  obtain ⟨v, h1, h2, h3⟩ := h
  exact ⟨βs, v, w, h1, h2, h3⟩
include hΓ h in
theorem evLoadN_ok {t : Nat} {x : TV} {v : Value} (hx : TR P J B βs obs w x v) (he : (evLoad Γ wr t x obs).To (tv, obs')) : GivesN P J B βs obs wr w (Instr.loadAt t v) tv obs' := by
  unfold evLoad at he
  split at he
  · exact (Res.to_fail he).elim
  · rename_i k hk
    have hE := hΓ.kind hk
    split at he
    · rename_i k' y
      split at he
      · rename_i hy hz
        have hz : 0 < k'.sz := by simpa [Nat.blt_eq] using hz
        obtain ⟨rfl, rfl⟩ := Res.to_nowV he
        have hE := hE.sim hy
        obtain ⟨ad, rfl, h2, cs, h3, h4, h5⟩ := hx
        have hadd : ∀ j, j < k'.sz → ∃ b o, ad = ⟨b, o, none⟩ := fun j hj => by
          have := h4 0 (by omega)
          rw [List.getElem?_eq_getElem (show 0 < cs.length by omega)] at this
          have h00 : ad.add 0 = ad := by simp [Addr.add]
          rw [h00] at this
          unfold World.cell? at this
          obtain ⟨b, o, s⟩ := ad
          cases s with
          | none => exact ⟨b, o, rfl⟩
          | some s => split at this <;> simp at this
        obtain ⟨b, o, rfl⟩ : ∃ b o, ad = ⟨b, o, none⟩ := hadd 0 hz
        obtain ⟨u, hu1, hu2⟩ := run_loadVar (w := w) (b := b) (o := o) hE h3 (fun j hj => by rw [← h4 j hj, Addr.add_mid])
        exact GivesN.now h hu1 ⟨hE.isVal, cs, hu2, h5⟩
      · exact (Res.to_fail he).elim
    · rename_i L off
      obtain ⟨hL, b, hbv, rfl⟩ := hx
      have hob := h.obs.rep L hL
      split at he
      · rename_i cs ho
        rw [ho] at hob
        obtain ⟨b', c, ty, fr, q1, q2, q3, q4, q5⟩ := hob
        rw [hbv] at q1
        cases q1
        have hlr : LeafRep w (Fz B βs obs w) βs cs c.toList := ⟨by rw [Array.length_toList]; exact q4.symm, fun i h1 h2 => by
          have := q5 i h1
          have hi : i < c.size := by omega
          simpa [hi] using this⟩
        split at he
        · rename_i c0
          split at he
          rotate_left
          · exact (Res.to_fail he).elim
          rename_i ck _
          split at he
          rotate_left
          · exact (Res.to_fail he).elim
          rename_i hs0
          have hE := hE.sim hs0
          split at he
          · rename_i y rest obs1 hg hf
            obtain ⟨rfl, rfl⟩ := Res.to_nowV he
            have hs := frzAll_step h hf
            obtain ⟨hrel, hst⟩ := frzAll_rel hf
            have h1 := hs.rep' h
            have hF := hs.own_keep h
            have hlr1 : LeafRep w (Fz B βs obs1 w) βs (cs.drop off) (c.toList.drop off) := by
              refine ⟨by simp [hlr.1], fun i e1 e2 => ?_⟩
              simp only [List.getElem_drop]
              have := hlr.2 (off + i) (by rw [List.length_drop] at e1; omega) (by rw [List.length_drop] at e2; omega)
              exact ⟨this.1, this.2.mono hF (Nat.le_refl _) (fun _ _ => rfl)⟩
            have hg1 : gather (.agg ck) (cs.drop off) obs1 = some (y, rest) := by
              rw [gather_frzRel hrel]; exact hg
            obtain ⟨g1, g2, g3⟩ := gather_rep P J h1.obs hg1 hlr1 (fun r hr => hst _ (List.mem_map.2 ⟨r, hr, rfl⟩))
            rw [List.length_drop] at g1
            obtain ⟨u, hu1, hu2⟩ := run_loadVar (w := w) (b := b) (o := off) (cs := (c.toList.drop off).take (Kd.sz (.agg ck))) hE (by rw [List.length_take, List.length_drop, Array.length_toList]; omega) (fun j hj => by
              rw [cell_of q2, List.getElem?_take, if_pos hj, List.getElem?_drop, Array.getElem?_toList])
            exact GivesN.froze hs hu1 ⟨rfl, _, hu2, g3⟩
          · exact (Res.to_fail he).elim
        · rename_i hna
          split at he
          · rename_i r hr
            obtain ⟨rfl, rfl⟩ := Res.to_nowV he
            have hA : k.isAgg = false := by
              cases k <;> first | rfl | exact absurd rfl (hna _)
            obtain ⟨hi, rfl⟩ := List.getElem?_eq_some_iff.1 hr
            have h1 := hE.one hA
            have hlt : off < c.size := by omega
            obtain ⟨u, hu1, hu2⟩ := run_loadVar (w := w) (b := b) (o := off) (cs := [c[off]]) hE (by simp [h1]) (fun j hj => by
              have : j = 0 := by omega
              subst this
              rw [cell_of q2]; simp [hlt])
            have hu2 : u = c[off] := by unfold valCells at hu2; rw [hA] at hu2; simpa using hu2.symm
            subst hu2
            refine GivesN.now h hu1 (RVRep.toTV ?_)
            have := (hlr.2 off hi (by rw [Array.length_toList]; omega)).2
            simpa using this
          · exact (Res.to_fail he).elim
      · exact (Res.to_fail he).elim
    · rename_i e L i off
      obtain ⟨hL, b, o, n, cap, hbv, hi0, hin, rfl⟩ := hx
      have hob := h.obs.rep L hL
      split at he
      · rename_i e' l ho
        split at he
        · rename_i l' g hc hg
          obtain ⟨rfl, rfl⟩ := Res.to_nowV he
          obtain ⟨rfl, hll⟩ := cast_slice hc
          obtain rfl : l = l' := hll
          rw [ho] at hob
          rcases hob with ⟨q, _⟩ | ⟨b', off', cap', c, tt, fr, q1, q2, q3, q4, q5, q6⟩
          · rw [hbv] at q; cases q
          · rw [hbv] at q1
            cases q1
            have hlt : i.toNat < l.length := by omega
            obtain ⟨cs, c1, c2, c3⟩ := q6 i.toNat hlt
            have hgt : gt e'.dflt l i = l[i.toNat] := by
              unfold gt
              simp [hlt]
            rw [hgt]
            obtain ⟨p0, p3⟩ := projS_rd (w := w) (F := Fz B βs obs w) hg
            obtain ⟨p1, p2⟩ := p3 c3
            have hE := hE.sim p0
            obtain ⟨u, hu1, hu2⟩ := run_loadVar (w := w) (b := b) (o := o + i.toNat * e'.sz + off) (cs := (cs.drop off).take g.p.sz) hE (by rw [List.length_take, List.length_drop]; omega) (fun j hj => by
              rw [cell_of q2, List.getElem?_take, if_pos hj, List.getElem?_drop, ← c2 (off + j) (by omega)]
              congr 1; omega)
            exact GivesN.now h hu1 ⟨hE.isVal, _, hu2, p2⟩
        · exact (Res.to_fail he).elim
      · exact (Res.to_fail he).elim
    · exact (Res.to_fail he).elim

include hΓ h in
theorem evLoad_ok {t : Nat} {x : TV} {v : Value} (hx : TR P J B βs obs w x v) (he : (evLoad Γ wr t x obs).To (tv, obs')) : Gives P J B βs obs wr w (Instr.loadAt t v) tv obs' := (evLoadN_ok hΓ h hx he).gives

end Go.Proofs.YtbliiipcjbmbiaaGreatDoor.Ev
