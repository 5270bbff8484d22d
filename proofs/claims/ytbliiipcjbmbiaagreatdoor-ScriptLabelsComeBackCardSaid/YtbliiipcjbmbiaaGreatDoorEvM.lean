/- The small evaluator's rules for the operations that make and write memory are right (this session's own). No condition. -/
import Derived.Test.YtbliiipcjbmbiaaGreatDoorEvA
namespace Go.Proofs.YtbliiipcjbmbiaaGreatDoor.Ev
open Go.RowKit
set_option linter.unusedVariables false
set_option linter.unusedSimpArgs false

variable {P : Program} {J : Inv} {Γ : Ctx} {B : Base} {C : LBase} {βs : List Value} {st : St} {a : Act} {w : World} {obs obs' : List Ob} {wr : Nat → Bool} {tv : TV}
variable (hΓ : CtxOK P J Γ) (h : Rep' P J B βs obs w)

/-! ### freezing, several at a time -/
def FrzRel (obs obs1 : List Ob) : Prop := obs1.length = obs.length ∧ ∀ L, getOb obs1 L = getOb obs L ∨ (∃ e l, getOb obs L = .arr e l ∧ getOb obs1 L = .frz e l) ∨ (∃ kk kv m, getOb obs L = .map kk kv m ∧ getOb obs1 L = .fmap kk kv m)
theorem FrzRel.refl (obs : List Ob) : FrzRel obs obs := ⟨rfl, fun _ => .inl rfl⟩
theorem FrzRel.trans {o1 o2 o3 : List Ob} (h : FrzRel o1 o2) (k : FrzRel o2 o3) : FrzRel o1 o3 := by
  refine ⟨k.1.trans h.1, fun L => ?_⟩
  rcases h.2 L with h1 | ⟨e, l, h1, h2⟩ | ⟨kk, kv, m, h1, h2⟩
  · rcases k.2 L with k1 | ⟨e, l, k1, k2⟩ | ⟨kk, kv, m, k1, k2⟩
    · exact .inl (k1.trans h1)
    · exact .inr (.inl ⟨e, l, h1 ▸ k1, k2⟩)
    · exact .inr (.inr ⟨kk, kv, m, h1 ▸ k1, k2⟩)
  · rcases k.2 L with k1 | ⟨e', l', k1, k2⟩ | ⟨kk, kv, m, k1, k2⟩
    · exact .inr (.inl ⟨e, l, h1, k1.trans h2⟩)
    · rw [h2] at k1; cases k1
    · rw [h2] at k1; cases k1
  · rcases k.2 L with k1 | ⟨e', l', k1, k2⟩ | ⟨kk', kv', m', k1, k2⟩
    · exact .inr (.inr ⟨kk, kv, m, h1, k1.trans h2⟩)
    · rw [h2] at k1; cases k1
    · rw [h2] at k1; cases k1
/-- nobody's own behind this slot -/
def Still (tv : TV) (obs : List Ob) : Prop := ∀ L, (tv = .arr L → ∀ e l, getOb obs L ≠ .arr e l) ∧ (tv = .map L → ∀ kk kv m, getOb obs L ≠ .map kk kv m)
theorem Still.mono {obs1 : List Ob} (h : Still tv obs) (k : FrzRel obs obs1) : Still tv obs1 := by
  intro L
  refine ⟨fun e e' l' he => ?_, fun e kk' kv' m' he => ?_⟩
  · rcases k.2 L with k1 | ⟨e1, l1, k1, k2⟩ | ⟨kk, kv, m, k1, k2⟩
    · exact (h L).1 e e' l' (k1 ▸ he)
    · rw [k2] at he; cases he
    · rw [k2] at he; cases he
  · rcases k.2 L with k1 | ⟨e1, l1, k1, k2⟩ | ⟨kk, kv, m, k1, k2⟩
    · exact (h L).2 e kk' kv' m' (k1 ▸ he)
    · rw [k2] at he; cases he
    · rw [k2] at he; cases he
theorem frz1_rel {obs1 : List Ob} (hf : frz1 wr tv obs = some obs1) : FrzRel obs obs1 ∧ Still tv obs1 := by
  cases tv with
  | arr L =>
    simp only [frz1] at hf
    split at hf
    · rename_i e l ho
      split at hf
      · cases hf
        have hL := getOb_lt ho rfl
        refine ⟨⟨by simp, fun M => ?_⟩, fun M => ⟨fun e' e1 l1 he => ?_, fun e' => (by cases e')⟩⟩
        · rw [getOb_set hL]
          by_cases q : L = M
          · subst q; rw [if_pos rfl]; exact .inr (.inl ⟨e, l, ho, rfl⟩)
          · rw [if_neg q]; exact .inl rfl
        · cases e'
          rw [getOb_set hL, if_pos rfl] at he; cases he
      · cases hf
    · rename_i hno
      cases hf
      exact ⟨FrzRel.refl _, fun M => ⟨fun e' e1 l1 he => (by cases e'; exact hno _ _ he), fun e' => (by cases e')⟩⟩
  | map L =>
    simp only [frz1] at hf
    split at hf
    · rename_i kk kv m ho
      split at hf
      · cases hf
        have hL := getOb_lt ho rfl
        refine ⟨⟨by simp, fun M => ?_⟩, fun M => ⟨fun e' => (by cases e'), fun e' kk1 kv1 m1 he => ?_⟩⟩
        · rw [getOb_set hL]
          by_cases q : L = M
          · subst q; rw [if_pos rfl]; exact .inr (.inr ⟨kk, kv, m, ho, rfl⟩)
          · rw [if_neg q]; exact .inl rfl
        · cases e'
          rw [getOb_set hL, if_pos rfl] at he; cases he
      · cases hf
    · rename_i hno
      cases hf
      exact ⟨FrzRel.refl _, fun M => ⟨fun e' => (by cases e'), fun e' kk1 kv1 m1 he => (by cases e'; exact hno _ _ _ he)⟩⟩
  | _ => simp only [frz1] at hf; cases hf; exact ⟨FrzRel.refl _, fun M => ⟨fun e' => (by cases e'), fun e' => (by cases e')⟩⟩
theorem frzAll_rel : ∀ {l : List TV} {obs obs1 : List Ob}, frzAll wr l obs = some obs1 → FrzRel obs obs1 ∧ ∀ tv ∈ l, Still tv obs1
  | [], _, _, h => by cases h; exact ⟨FrzRel.refl _, fun _ h => by cases h⟩
  | c :: cs, obs, obs1, h => by
    simp only [frzAll] at h
    split at h
    · rename_i o ho
      obtain ⟨h1, h2⟩ := frz1_rel ho
      obtain ⟨h3, h4⟩ := frzAll_rel h
      refine ⟨h1.trans h3, fun tv htv => ?_⟩
      rcases List.mem_cons.1 htv with rfl | htv
      · exact h2.mono h3
      · exact h4 tv htv
    · cases h
theorem frzAll_step : ∀ {l : List TV} {obs obs1 : List Ob}, Rep' P J B βs obs w → frzAll wr l obs = some obs1 → Step B βs obs wr w βs obs1 w
  | [], _, _, h, hf => by cases hf; exact h.step_refl _
  | c :: cs, obs, obs1, h, hf => by
    simp only [frzAll] at hf
    split at hf
    · rename_i o ho
      have s := frz1_step h ho
      exact s.trans (frzAll_step (s.rep' h) hf)
    · cases hf
theorem toVal_frzRel {k : Kd} {tv : TV} {obs1 : List Ob} (hr : FrzRel obs obs1) : toVal k tv obs1 = toVal k tv obs := by
  cases tv with
  | arr L =>
    rcases hr.2 L with h1 | ⟨e, l, h1, h2⟩ | ⟨kk, kv, m, h1, h2⟩
    · simp only [toVal, h1]
    · simp only [toVal, h1, h2]
    · simp only [toVal, h1, h2]
  | map L =>
    rcases hr.2 L with h1 | ⟨e, l, h1, h2⟩ | ⟨kk, kv, m, h1, h2⟩
    · simp only [toVal, h1]
    · simp only [toVal, h1, h2]
    · simp only [toVal, h1, h2]
  | _ => rfl
theorem toVal_still (hO : Obs B βs obs w) {k : Kd} {v : Value} {x : k.T} (ht : TVRep P J w (Fz B βs obs w) B.S βs tv v) (hs : Still tv obs) (h : toVal k tv obs = some x) : RdV w (Fz B βs obs w) k v x := by
  cases tv with
  | cst vs => rw [show v = _ from ht]; exact constV_rep h
  | val k' y => exact RdV.castW ht h
  | nil =>
    cases k <;> simp only [toVal] at h <;> cases h
    · rw [show v = _ from ht]; exact nil_reads _
    · rw [show v = _ from ht]; exact nil_readsO _
  | nilk e =>
    rw [show v = _ from ht]
    exact RdV.castW (nil_reads e) h
  | arr L =>
    obtain ⟨hL, rfl⟩ := ht
    have hr := hO.rep L hL
    simp only [toVal] at h
    split at h
    · rename_i e l ho
      exact absurd ho ((hs L).1 rfl e l)
    · rename_i e l ho
      rw [ho] at hr
      exact RdV.cast hr h
    · cases h
  | map L =>
    obtain ⟨hL, rfl⟩ := ht
    have hr := hO.rep L hL
    simp only [toVal] at h
    split at h
    · rename_i kk kv m ho
      exact absurd ho ((hs L).2 rfl kk kv m)
    · rename_i kk kv m ho
      rw [ho] at hr
      exact RdV.cast hr h
    · cases h
  | ptr L off =>
    cases k with
    | optr =>
      simp only [toVal] at h
      cases h
      exact ptr_val ht
    | _ => simp [toVal] at h
  | _ => simp [toVal] at h
/-- behind a freezing of a slot (and of others) its datum is read of what is nobody's own -/
theorem toVal_behind (h : Rep' P J B βs obs w) {obs1 : List Ob} (hs : Step B βs obs wr w βs obs1 w) (hr : FrzRel obs obs1) (hst : Still tv obs1) {k : Kd} {v : Value} {x : k.T} (ht : TVRep P J w (Fz B βs obs w) B.S βs tv v) (hx : toVal k tv obs = some x) :
    RdV w (Fz B βs obs1 w) k v x ∧ TVRep P J w (Fz B βs obs1 w) B.S βs tv v := by
  have hF : ∀ b, Fz B βs obs w b → Fz B βs obs1 w b ∧ w.heap[b]? = w.heap[b]? := fun b hb => by
    refine ⟨?_, rfl⟩
    have h1 := h.notOwn hb
    rcases hb with hb | hb
    · exact .inl hb
    · refine .inr ⟨hb.1, hb.2.1, fun hn => ?_⟩
      rcases (hs.own b hn).1 with h2 | h2
      · exact h1.2 h2
      · omega
  have ht' := ht.mono (fun _ _ => rfl) (Nat.le_refl _) hF (Nat.le_refl _) (fun _ _ => rfl)
  refine ⟨toVal_still ⟨hs.len, hs.rep⟩ ht' hst ?_, ht'⟩
  rw [toVal_frzRel hr]
  exact hx

/-! ### cells of a datum -/
def LeafRep (w : World) (F : Nat → Prop) (βs : List Value) (cs : List RV) (vs : List Value) : Prop := cs.length = vs.length ∧ ∀ (i : Nat) (h1 : i < cs.length) (h2 : i < vs.length), leafOK cs[i] ∧ RVRep w F βs cs[i] vs[i]
theorem LeafRep.append {F : Nat → Prop} {cs ds : List RV} {us vs : List Value} (h : LeafRep w F βs cs us) (k : LeafRep w F βs ds vs) : LeafRep w F βs (cs ++ ds) (us ++ vs) := by
  refine ⟨by simp [h.1, k.1], fun i h1 h2 => ?_⟩
  by_cases hi : i < cs.length
  · rw [List.getElem_append_left hi, List.getElem_append_left (by rw [← h.1]; exact hi)]
    exact h.2 i hi _
  · rw [List.getElem_append_right (by omega), List.getElem_append_right (by have := h.1; omega)]
    have e : i - us.length = i - cs.length := by have := h.1; omega
    simp only [e]
    exact k.2 _ _ _
theorem LeafRep.one {F : Nat → Prop} {r : RV} {v : Value} (h0 : leafOK r) (h : RVRep w F βs r v) : LeafRep w F βs [r] [v] :=
  ⟨rfl, fun i h1 h2 => by
    have : i = 0 := by simp at h1; omega
    subst this; exact ⟨h0, h⟩⟩
theorem LeafRep.nil {F : Nat → Prop} : LeafRep w F βs [] [] := ⟨rfl, fun i h1 _ => by cases h1⟩
theorem leaves_rep {F : Nat → Prop} : ∀ {k : Kd} {vs : List Value} {x : k.T}, Rd w F k vs x → LeafRep w F βs (leaves k x) vs
  | .pair a b, _, _, ⟨va, vb, rfl, h2, h3⟩ => (leaves_rep h2).append (leaves_rep h3)
  | .agg c, vs, x, h => leaves_rep (k := c) (vs := vs) (x := x) h
  | .unit, _, _, h => by rw [show _ = _ from h]; exact LeafRep.nil
  | .int k, _, _, h => by rw [show _ = _ from h]; exact LeafRep.one rfl (mk_int _ _)
  | .bool, _, _, h => by rw [show _ = _ from h]; exact LeafRep.one rfl (mk_bool _)
  | .str, _, _, h => by rw [show _ = _ from h]; exact LeafRep.one rfl (mk_str _)
  | .slice e, vs, x, h => by
    obtain ⟨A, c, h1, h2⟩ := h
    rw [h1]; exact LeafRep.one rfl ⟨rfl, [_], rfl, A, c, rfl, h2⟩
  | .map kk kv, vs, x, h => by
    have : ∃ v, vs = [v] := by
      rcases h with ⟨h1, _⟩ | ⟨r, es, clock, h1, _⟩
      · exact ⟨_, h1⟩
      · exact ⟨_, h1⟩
    obtain ⟨v, rfl⟩ := this
    exact LeafRep.one rfl ⟨rfl, [_], rfl, h⟩
  | .iter g kk kv, vs, x, h => by
    have : ∃ v, vs = [v] := by
      rcases h with ⟨h1, _⟩ | ⟨bx, v, m, h1, _⟩
      · exact ⟨_, h1⟩
      · exact ⟨_, h1⟩
    obtain ⟨v, rfl⟩ := this
    exact LeafRep.one rfl ⟨rfl, [_], rfl, h⟩
  | .oslice n, vs, x, h => by
    obtain ⟨A, c, h1, h2⟩ := h
    rw [h1]; exact LeafRep.one rfl ⟨rfl, [_], rfl, A, c, rfl, h2⟩
  | .optr, vs, x, h => by
    obtain ⟨q, h1, h2⟩ := h
    rw [h1]; exact LeafRep.one rfl ⟨rfl, [_], rfl, q, rfl, h2⟩
  | .ofn, vs, x, h => by
    obtain ⟨h1, h2⟩ := h
    rw [h1]; exact LeafRep.one rfl ⟨rfl, [_], rfl, rfl, h2⟩
theorem zleaves_rep {F : Nat → Prop} : ∀ (k : Kd), LeafRep w F βs (zleaves k) k.zeroCells
  | .pair a b => (zleaves_rep a).append (zleaves_rep b)
  | .agg c => zleaves_rep c
  | .unit => LeafRep.nil
  | .int k => LeafRep.one rfl (mk_int _ _)
  | .bool => LeafRep.one rfl (mk_bool _)
  | .str => LeafRep.one rfl (mk_str _)
  | .slice e => LeafRep.one trivial rfl
  | .map kk kv => LeafRep.one rfl ⟨rfl, [_], rfl, Rd.zero (.map kk kv)⟩
  | .iter g kk kv => LeafRep.one rfl ⟨rfl, [_], rfl, Rd.zero (.iter g kk kv)⟩
  | .oslice n => LeafRep.one rfl ⟨rfl, [_], rfl, Rd.zero (.oslice n)⟩
  | .optr => LeafRep.one rfl ⟨rfl, [_], rfl, Rd.zero .optr⟩
  | .ofn => LeafRep.one rfl ⟨rfl, [_], rfl, Rd.zero .ofn⟩
theorem Rd.one {F : Nat → Prop} : ∀ {k : Kd} {vs : List Value} {x : k.T}, Rd w F k vs x → ∀ v ∈ vs, v.oneCell' = true
  | .pair a b, _, _, ⟨va, vb, rfl, h2, h3⟩, v, hv => by
    rcases List.mem_append.1 hv with hv | hv
    · exact Rd.one h2 v hv
    · exact Rd.one h3 v hv
  | .agg c, vs, x, h, v, hv => Rd.one (k := c) (vs := vs) (x := x) h v hv
  | .unit, _, _, h, v, hv => by rw [show _ = _ from h] at hv; cases hv
  | .int k, _, _, h, v, hv => by rw [show _ = _ from h] at hv; rw [List.mem_singleton.1 hv]; rfl
  | .bool, _, _, h, v, hv => by rw [show _ = _ from h] at hv; rw [List.mem_singleton.1 hv]; rfl
  | .str, _, _, h, v, hv => by rw [show _ = _ from h] at hv; rw [List.mem_singleton.1 hv]; rfl
  | .slice e, _, _, ⟨A, c, h1, _⟩, v, hv => by rw [h1] at hv; rw [List.mem_singleton.1 hv]; rfl
  | .map kk kv, _, _, h, v, hv => by
    rcases h with ⟨h1, _⟩ | ⟨r, es, clock, h1, _⟩
    · rw [h1] at hv; rw [List.mem_singleton.1 hv]; rfl
    · rw [h1] at hv; rw [List.mem_singleton.1 hv]; rfl
  | .iter g kk kv, _, _, h, v, hv => by
    rcases h with ⟨h1, _⟩ | ⟨bx, v', m, h1, _⟩
    · rw [h1] at hv; rw [List.mem_singleton.1 hv]; rfl
    · rw [h1] at hv; rw [List.mem_singleton.1 hv]; rfl
  | .oslice n, _, _, ⟨A, c, h1, _⟩, v, hv => by rw [h1] at hv; rw [List.mem_singleton.1 hv]; rfl
  | .optr, _, _, ⟨q, h1, _⟩, v, hv => by rw [h1] at hv; rw [List.mem_singleton.1 hv]; cases q <;> rfl
  | .ofn, _, _, ⟨h1, _⟩, v, hv => by rw [h1] at hv; rw [List.mem_singleton.1 hv]; rfl

theorem gather_frzRel {obs1 : List Ob} (hr : FrzRel obs obs1) : ∀ (k : Kd) (cs : List RV), gather k cs obs1 = gather k cs obs
  | .pair a b, cs => by
    simp only [gather, gather_frzRel hr a, gather_frzRel hr b]
  | .agg c, cs => by simp only [gather]; exact gather_frzRel hr c cs
  | .unit, _ => rfl
  | .int _, [] => rfl
  | .bool, [] => rfl
  | .str, [] => rfl
  | .slice _, [] => rfl
  | .map _ _, [] => rfl
  | .iter _ _ _, [] => rfl
  | .oslice _, [] => rfl
  | .optr, [] => rfl
  | .ofn, [] => rfl
  | .int _, c :: cs => by simp only [gather, toVal_frzRel hr]
  | .bool, c :: cs => by simp only [gather, toVal_frzRel hr]
  | .str, c :: cs => by simp only [gather, toVal_frzRel hr]
  | .slice _, c :: cs => by simp only [gather, toVal_frzRel hr]
  | .map _ _, c :: cs => by simp only [gather, toVal_frzRel hr]
  | .iter _ _ _, c :: cs => by simp only [gather, toVal_frzRel hr]
  | .oslice _, c :: cs => by simp only [gather, toVal_frzRel hr]
  | .optr, c :: cs => by simp only [gather, toVal_frzRel hr]
  | .ofn, c :: cs => by simp only [gather, toVal_frzRel hr]
/-- a datum out of cells -/
theorem gather_gen {F F' : Nat → Prop} : ∀ {k : Kd} {cs rest : List RV} {vs : List Value} {x : k.T}, gather k cs obs = some (x, rest) →
    LeafRep w F βs cs vs → (∀ c ∈ cs.take k.sz, ∀ (k' : Kd) (v : Value) (y : k'.T), RVRep w F βs c v → toVal k' c.tv obs = some y → RdV w F' k' v y) →
    k.sz ≤ cs.length ∧ rest = cs.drop k.sz ∧ Rd w F' k (vs.take k.sz) x := by
  have single : ∀ {k : Kd} {cs rest : List RV} {vs : List Value} {x : k.T}, k.sz = 1 → k.isAgg = false → k.isVal = true →
      (∃ c r, cs = c :: r ∧ toVal k c.tv obs = some x ∧ rest = r) → LeafRep w F βs cs vs → (∀ c ∈ cs.take k.sz, ∀ (k' : Kd) (v : Value) (y : k'.T), RVRep w F βs c v → toVal k' c.tv obs = some y → RdV w F' k' v y) →
      k.sz ≤ cs.length ∧ rest = cs.drop k.sz ∧ Rd w F' k (vs.take k.sz) x := by
    rintro k cs rest vs x hs ha hv ⟨c, r, rfl, hx, rfl⟩ hl hst
    rw [hs] at hst ⊢
    cases vs with
    | nil => have := hl.1; simp at this
    | cons v vs =>
      have h0 := hl.2 0 (by simp) (by simp)
      refine ⟨by simp, by simp, ?_⟩
      obtain ⟨_, us, h1, h2⟩ := hst c (by simp) k v x h0.2 hx
      unfold valCells at h1
      rw [ha] at h1
      have h1 : us = [v] := by simpa using h1
      rw [h1] at h2
      simpa using h2
  have inv : ∀ {k : Kd} {cs rest : List RV} {x : k.T}, k.isAgg = false → k.isVal = true → k ≠ .unit → gather k cs obs = some (x, rest) → ∃ c r, cs = c :: r ∧ toVal k c.tv obs = some x ∧ rest = r := by
    intro k cs rest x ha hv hu hg
    cases cs with
    | nil => cases k <;> simp_all [gather, Kd.isVal, Kd.isAgg]
    | cons c r =>
      cases k <;> simp only [Kd.isVal, Kd.isAgg, Bool.false_eq_true, Bool.true_eq_false, reduceCtorEq, not_true_eq_false, ne_eq] at ha hv hu <;> simp only [gather] at hg <;> split at hg <;> first
        | (rename_i y hy; simp only [Option.some.injEq, Prod.mk.injEq] at hg; obtain ⟨rfl, rfl⟩ := hg; exact ⟨c, r, rfl, hy, rfl⟩)
        | cases hg
  intro k
  induction k with
  | pair a b iha ihb =>
    intro cs rest vs x hg hl hst
    simp only [gather] at hg
    split at hg
    · rename_i x1 cs1 hg1
      split at hg
      · rename_i y1 cs2 hg2
        simp only [Option.some.injEq, Prod.mk.injEq] at hg
        obtain ⟨rfl, rfl⟩ := hg
        obtain ⟨h1, rfl, h3⟩ := iha hg1 hl (fun c hc => hst c (by
          simp only [Kd.sz]
          exact (List.take_subset_take_left cs (by omega)) hc))
        have hl' : LeafRep w F βs (cs.drop a.sz) (vs.drop a.sz) := by
          refine ⟨by simp [hl.1], fun i q1 q2 => ?_⟩
          simp only [List.getElem_drop]
          exact hl.2 _ _ _
        obtain ⟨h4, rfl, h6⟩ := ihb hg2 hl' (fun c hc => hst c (by
          simp only [Kd.sz]
          rw [List.take_drop] at hc; rw [Nat.add_comm] at hc
          rw [Nat.add_comm a.sz]; exact List.drop_subset _ _ hc))
        rw [List.length_drop] at h4
        refine ⟨by simp only [Kd.sz]; omega, by simp only [Kd.sz]; rw [List.drop_drop], ?_⟩
        refine ⟨vs.take a.sz, (vs.drop a.sz).take b.sz, ?_, h3, h6⟩
        simp only [Kd.sz]
        rw [List.take_add]
      · cases hg
    · cases hg
  | agg c ih =>
    intro cs rest vs x hg hl hst
    exact ih hg hl hst
  | unit =>
    intro cs rest vs x hg hl hst
    simp only [gather, Option.some.injEq, Prod.mk.injEq] at hg
    obtain ⟨-, rfl⟩ := hg
    exact ⟨by simp [Kd.sz], by simp [Kd.sz], by simp [Kd.sz]; rfl⟩
  | int k => intro cs rest vs x hg hl hst; exact single rfl rfl rfl (inv rfl rfl (by simp) hg) hl hst
  | bool => intro cs rest vs x hg hl hst; exact single rfl rfl rfl (inv rfl rfl (by simp) hg) hl hst
  | str => intro cs rest vs x hg hl hst; exact single rfl rfl rfl (inv rfl rfl (by simp) hg) hl hst
  | slice e _ => intro cs rest vs x hg hl hst; exact single rfl rfl rfl (inv rfl rfl (by simp) hg) hl hst
  | map kk kv _ _ => intro cs rest vs x hg hl hst; exact single rfl rfl rfl (inv rfl rfl (by simp) hg) hl hst
  | iter g kk kv _ _ => intro cs rest vs x hg hl hst; exact single rfl rfl rfl (inv rfl rfl (by simp) hg) hl hst
  | oslice n => intro cs rest vs x hg hl hst; exact single rfl rfl rfl (inv rfl rfl (by simp) hg) hl hst
  | optr => intro cs rest vs x hg hl hst; exact single rfl rfl rfl (inv rfl rfl (by simp) hg) hl hst
  | ofn => intro cs rest vs x hg hl hst; exact single rfl rfl rfl (inv rfl rfl (by simp) hg) hl hst
/-- a datum out of cells, behind the freezing of all that it is put together of -/
theorem gather_rep (P : Program) (J : Inv) (hO : Obs B βs obs w) {k : Kd} {cs rest : List RV} {vs : List Value} {x : k.T} (hg : gather k cs obs = some (x, rest))
    (hl : LeafRep w (Fz B βs obs w) βs cs vs) (hst : ∀ c ∈ cs.take k.sz, Still c.tv obs) :
    k.sz ≤ cs.length ∧ rest = cs.drop k.sz ∧ Rd w (Fz B βs obs w) k (vs.take k.sz) x :=
  gather_gen hg hl fun c hc k' v y hr hy => toVal_still hO (RVRep.toTV (P := P) (J := J) hr) (hst c hc) hy

end Go.Proofs.YtbliiipcjbmbiaaGreatDoor.Ev
