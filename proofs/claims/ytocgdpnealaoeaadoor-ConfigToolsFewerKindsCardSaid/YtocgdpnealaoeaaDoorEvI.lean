/- The small evaluator's rule for calls is right: the call itself (this session's own). No condition. -/
import Derived.Test.YtocgdpnealaoeaaDoorEvH
namespace Go.Proofs.YtocgdpnealaoeaaDoor.Ev
open Go.RowKit
set_option linter.unusedVariables false
set_option linter.unusedSimpArgs false

variable {P : Program} {J : Inv} {Γ : Ctx} {B : Base} {C : LBase} {βs : List Value} {st : St} {a : Act} {w : World} {obs obs' obs1 obs2 : List Ob} {wr : Nat → Bool} {tv : TV}

theorem FnvRep.sub {S S' : Nat → Prop} {a r : Kd} {f : a.T → Option r.T} {v : Value} (h : FnvRep P J w S a r f v) (hS : ∀ b, S b → S' b) : FnvRep P J w S' a r f v := by
  obtain ⟨h1, g, caps, h2, h2', h3⟩ := h
  exact ⟨h1, g, caps, h2, h2', fun w2 hI hg hs2 hF => h3 w2 hI hg hs2 fun b hb => hF b (hS b hb)⟩

/-- one argument -/
theorem argOf_rep (hΓ : CtxOK P J Γ) (h : Rep' P J B βs obs w) (hd : Drops obs obs1) (hrel : FrzRel obs1 obs2) {flat : Bool} {S' : Nat → Prop} (hS : ∀ b, B.S b → S' b) (hFz : ∀ b, Fz B βs obs w b → S' b) (hSz : ∀ b, S' b → b < w.heap.size)
    (hFS : ∀ b, Own βs obs1 b → S' b) {k : Nat} {p : Pm} {v : Value} {x : p.T} (ht : TR P J B βs obs w tv v) (hx : argOf Γ k p tv obs obs1 = some x)
    (hst : flat = true ∨ ((∀ k, p = .val k → Still tv obs2) ∧ ∀ k L off cs, p = .rptr k → tv = .ptr L off → getOb obs1 L = .box cs → ∀ c ∈ cs, Still c.tv obs2)) :
    ArgRep P J w (CF B βs obs obs1 obs2 flat w) S' p x v := by
  have hownL : ∀ L b, (getOb obs1 L).live = true → bOf (bv βs L) = some b → Own βs obs1 b := fun L b hl hb => ⟨L, by rw [h.obs.len, ← hd.1]; exact getOb_live_lt hl, hl, hb⟩
  have hnot : ∀ (tv : TV), Still tv obs2 → ∀ L b, ((tv = .arr L ∧ ∃ e l, getOb obs1 L = .arr e l) ∨ (tv = .map L ∧ ∃ kk kv m, getOb obs1 L = .map kk kv m)) → bOf (bv βs L) = some b → Own βs obs1 b ∧ ¬ Own βs obs2 b := by
    rintro tv hstill L b hL hb
    have hl : (getOb obs1 L).live = true := by
      rcases hL with ⟨_, e, l, q⟩ | ⟨_, kk, kv, m, q⟩ <;> rw [q] <;> rfl
    refine ⟨hownL L b hl hb, ?_⟩
    rintro ⟨M, hM, m1, m2⟩
    have q1 : (getOb obs1 M).live = true := by
      rcases hrel.2 M with q | ⟨e, l, q1, q2⟩ | ⟨kk, kv, m, q1, q2⟩
      · rw [← q]; exact m1
      · rw [q1]; rfl
      · rw [q1]; rfl
    have q2 : ∀ {N}, (getOb obs1 N).live = true → (getOb obs N).live = true := fun {N} hn => by
      rw [← hd.live (fun e => by rw [e] at hn; cases hn)]; exact hn
    have hLb : L < βs.length := by rw [h.obs.len, ← hd.1]; exact getOb_live_lt hl
    have e := h.inj L M b hLb hM (q2 hl) (q2 q1) hb m2
    subst e
    rcases hrel.2 L with q | ⟨e, l, q1, q2⟩ | ⟨kk, kv, m, q1, q2⟩
    · rcases hL with ⟨hL, e, l, ho⟩ | ⟨hL, kk, kv, m, ho⟩
      · exact (hstill L).1 hL e l (q.trans ho)
      · exact (hstill L).2 hL kk kv m (q.trans ho)
    · rw [q2] at m1; cases m1
    · rw [q2] at m1; cases m1
  have hFc : ∀ b, Fz B βs obs w b → CF B βs obs obs1 obs2 flat w b := fun b hb => .inl hb
  cases p with
  | val k =>
    refine toVal_S h hd hFc ht hx (fun L b hL hb => ?_)
    rcases hst with rfl | hst
    · have hl : (getOb obs1 L).live = true := by
        rcases hL with ⟨_, e, l, q⟩ | ⟨_, kk, kv, m, q⟩ <;> rw [q] <;> rfl
      exact .inr ⟨hownL L b hl hb, .inl rfl⟩
    · have := hnot tv (hst.1 k rfl) L b hL hb
      exact .inr ⟨this.1, .inr this.2⟩
  | own e =>
    show ObRep w _ [] v (.arr e x)
    simp only [argOf] at hx
    split at hx
    · rename_i L
      split at hx
      · rename_i e' l ho
        obtain ⟨rfl, hll⟩ := cast_slice hx
        obtain rfl : l = x := hll
        obtain ⟨hL, rfl⟩ := ht
        have hr := h.obs.rep L hL
        rw [ho] at hr
        rcases hr with q | ⟨b, off, cap, c, tt, fr, q1, q2, q3, q4, q5, q6⟩
        · exact .inl q
        · refine .inr ⟨b, off, cap, c, tt, fr, q1, q2, q3, q4, q5, fun i hi => ?_⟩
          obtain ⟨cs, c1, c2, c3⟩ := q6 i hi
          exact ⟨cs, c1, c2, Rd.mono (fun b hb => ⟨hFc b hb, rfl⟩) c3⟩
      · cases hx
    · cases hx; exact .inl ⟨ht, rfl⟩
    · cases hx; exact .inl ⟨ht, rfl⟩
    · cases hx
  | rptr k =>
    refine gatherPtr_rep h hd hFc hS ht hx (fun L off b e hl hb => hFS b (hownL L b hl hb)) (fun L off cs e hob c hc k' v' y hr hy => ?_)
    refine toVal_S h hd hFc (RVRep.toTV hr) hy (fun N b hN hb => ?_)
    rcases hst with rfl | hst
    · have hl : (getOb obs1 N).live = true := by
        rcases hN with ⟨_, e, l, q⟩ | ⟨_, kk, kv, m, q⟩ <;> rw [q] <;> rfl
      exact .inr ⟨hownL N b hl hb, .inl rfl⟩
    · have := hnot c.tv (hst.2 k L off cs rfl e hob c hc) N b hN hb
      exact .inr ⟨this.1, .inr this.2⟩
  | nil e =>
    show v = _
    simp only [argOf] at hx
    split at hx
    · exact ht
    · exact ht
    · cases hx
  | fnv a r =>
    show FnvRep P J w S' a r x v
    simp only [argOf] at hx
    split at hx
    · rename_i a' r' f
      split at hx
      · rename_i ha hr _ _
        subst ha
        subst hr
        cases hx
        exact FnvRep.sub ht hS
      · cases hx
    · rename_i g caps
      split at hx
      · rename_i hflat
        split at hx
        · rename_i F hg
          obtain ⟨h1, rfl⟩ := ht
          exact cloFn_rep h hd hS hFz hSz (fun L b h1 _ h3 => hFS b (hownL L b h1 h3)) (hΓ.fn _ _ hg) h1 hflat hx
        · cases hx
      · cases hx
    · cases hx

theorem argsOf_rep (hΓ : CtxOK P J Γ) (h : Rep' P J B βs obs w) (hd : Drops obs obs1) (hrel : FrzRel obs1 obs2) {flat : Bool} {S' : Nat → Prop} (hS : ∀ b, B.S b → S' b) (hFz : ∀ b, Fz B βs obs w b → S' b) (hSz : ∀ b, S' b → b < w.heap.size)
    (hFS : ∀ b, Own βs obs1 b → S' b) {k : Nat} : ∀ {ps : List Pm} {tvs : List TV} {vals : List Value} {xs : PT ps}, TVs P J B βs obs w tvs vals → argsOf Γ k ps tvs obs obs1 = some xs →
    (flat = true ∨ ∃ o1, FrzRel obs1 o1 ∧ lent wr ps tvs o1 = some obs2) → ArgsRep P J w (CF B βs obs obs1 obs2 flat w) S' ps xs vals
  | [], [], vals, xs, ht, _, _ => ht
  | p :: ps, tv :: tvs, vals, xs, ht, hx, hl => by
    obtain ⟨v, r, rfl, hv, hr⟩ := ht
    simp only [argsOf] at hx
    split at hx
    · rename_i x xs' hx1 hx2
      cases hx
      have both : (flat = true ∨ ((∀ k, p = .val k → Still tv obs2) ∧ ∀ k L off cs, p = .rptr k → tv = .ptr L off → getOb obs1 L = .box cs → ∀ c ∈ cs, Still c.tv obs2)) ∧ (flat = true ∨ ∃ o1, FrzRel obs1 o1 ∧ lent wr ps tvs o1 = some obs2) := by
        rcases hl with rfl | ⟨o1, ho1, hl⟩
        · exact ⟨.inl rfl, .inl rfl⟩
        · cases p with
          | val k =>
            simp only [lent] at hl
            split at hl
            · rename_i o2 hf
              obtain ⟨g1, g2⟩ := frz1_rel hf
              obtain ⟨k1, _⟩ := lent_rel hl
              exact ⟨.inr ⟨fun _ _ => g2.mono k1, fun _ _ _ _ q => by cases q⟩, .inr ⟨o2, ho1.trans g1, hl⟩⟩
            · cases hl
          | own e =>
            simp only [lent] at hl
            exact ⟨.inr ⟨fun _ q => (by cases q), fun _ _ _ _ q => (by cases q)⟩, .inr ⟨o1, ho1, hl⟩⟩
          | nil e =>
            simp only [lent] at hl
            exact ⟨.inr ⟨fun _ q => (by cases q), fun _ _ _ _ q => (by cases q)⟩, .inr ⟨o1, ho1, hl⟩⟩
          | fnv a r =>
            simp only [lent] at hl
            exact ⟨.inr ⟨fun _ q => (by cases q), fun _ _ _ _ q => (by cases q)⟩, .inr ⟨o1, ho1, hl⟩⟩
          | rptr k =>
            cases tv with
            | ptr L off =>
              simp only [lent] at hl
              split at hl
              · rename_i cs hob
                split at hl
                · rename_i o2 hf
                  obtain ⟨g1, g2⟩ := frzAll_rel hf
                  obtain ⟨k1, _⟩ := lent_rel hl
                  refine ⟨.inr ⟨fun _ q => (by cases q), fun _ L' off' cs' _ e hob' c hc => ?_⟩, .inr ⟨o2, ho1.trans g1, hl⟩⟩
                  cases e
                  have : cs' = cs := by
                    rcases ho1.2 L with q | ⟨e, l, q1, q2⟩ | ⟨kk, kv, m, q1, q2⟩
                    · rw [q, hob'] at hob; cases hob; rfl
                    · rw [q2] at hob; cases hob
                    · rw [q2] at hob; cases hob
                  subst this
                  exact (g2 _ (List.mem_map.2 ⟨c, hc, rfl⟩)).mono k1
                · cases hl
              · cases hl
            | _ =>
              simp only [lent] at hl
              exact ⟨.inr ⟨fun _ q => (by cases q), fun _ _ _ _ _ q => (by cases q)⟩, .inr ⟨o1, ho1, hl⟩⟩
      exact ⟨v, r, rfl, argOf_rep hΓ h hd hrel hS hFz hSz hFS hv hx1 both.1, argsOf_rep hΓ h hd hrel hS hFz hSz hFS hr hx2 both.2⟩
    · cases hx
  | [], _ :: _, _, _, _, hx, _ => by simp [argsOf] at hx
  | _ :: _, [], _, _, _, hx, _ => by simp [argsOf] at hx

/-! ### the results -/
def ownObs : (rs : List Lm) → OT rs → List Ob
  | [], _ => []
  | [.val _], _ => []
  | [.own e], l => [.arr e l]
  | .val _ :: p :: os, y => ownObs (p :: os) y.2
  | .own e :: p :: os, y => .arr e y.1 :: ownObs (p :: os) y.2
def ownVals : List Lm → List Value → List Value
  | .own _ :: rs, v :: vs => v :: ownVals rs vs
  | .val _ :: rs, _ :: vs => ownVals rs vs
  | _, _ => []
theorem back_obs : ∀ (rs : List Lm) (y : OT rs) (obs : List Ob), (back rs y obs).2 = obs ++ ownObs rs y
  | [], _, obs => by simp [back, ownObs]
  | [.val _], _, obs => by simp [back, oneBack, ownObs]
  | [.own e], l, obs => by simp [back, oneBack, ownObs]
  | .val _ :: p :: os, y, obs => by
    have := back_obs (p :: os) y.2 obs
    simp only [back, oneBack, ownObs]
    exact this
  | .own e :: p :: os, y, obs => by
    have := back_obs (p :: os) y.2 (obs ++ [.arr e y.1])
    simp only [back, oneBack, ownObs]
    rw [this, List.append_assoc]; rfl
theorem ownRs_vals : ∀ (rs : List Lm) (vs : List Value), ownRs rs vs = (ownVals rs vs).flatMap fun v => (bOf v).toList
  | [], _ => rfl
  | .val _ :: rs, [] => rfl
  | .own _ :: rs, [] => rfl
  | .val _ :: rs, v :: vs => by simp only [ownRs, ownVals]; exact ownRs_vals rs vs
  | .own _ :: rs, v :: vs => by simp only [ownRs, ownVals, List.flatMap_cons]; rw [ownRs_vals rs vs]
/-- each own result is the array that it is said to be -/
theorem ownObs_rep {F : Nat → Prop} : ∀ {rs : List Lm} {y : OT rs} {vs : List Value}, RetsRep w F rs y vs → (ownObs rs y).length = (ownVals rs vs).length ∧
    ∀ (i : Nat) (h1 : i < (ownObs rs y).length) (h2 : i < (ownVals rs vs).length), ∃ e l, (ownObs rs y)[i] = .arr e l ∧ ObRep w F [] (ownVals rs vs)[i] (.arr e l)
  | [], y, vs, h => ⟨by rw [show vs = _ from h]; rfl, fun i h1 => by cases h1⟩
  | [.val _], y, _, ⟨v, rfl, h⟩ => ⟨rfl, fun i h1 => by cases h1⟩
  | [.own e], y, _, ⟨v, rfl, h⟩ => ⟨rfl, fun i h1 h2 => by
    have : i = 0 := by simp [ownObs] at h1; omega
    subst this
    exact ⟨e, y, rfl, h⟩⟩
  | .val _ :: p :: os, y, _, ⟨v, r, rfl, h1, h2⟩ => by
    have := ownObs_rep h2
    simpa only [ownObs, ownVals] using this
  | .own e :: p :: os, y, _, ⟨v, r, rfl, h1, h2⟩ => by
    obtain ⟨g1, g2⟩ := ownObs_rep h2
    refine ⟨by simp only [ownObs, ownVals, List.length_cons, g1], fun i q1 q2 => ?_⟩
    cases i with
    | zero => exact ⟨e, y.1, rfl, h1⟩
    | succ i =>
      simp only [ownObs, ownVals, List.getElem_cons_succ]
      exact g2 i (by simpa [ownObs] using q1) (by simpa [ownVals] using q2)
/-- the slots of the results -/
theorem back_rep {F F' : Nat → Prop} (hF : ∀ b, F b → F' b) : ∀ {rs : List Lm} {y : OT rs} {vs : List Value} {obs : List Ob} {βs βf : List Value}, RetsRep w F rs y vs → (∀ o ∈ rs, o.flat = true ∨ ∀ b, F b → F' b) → βs.length = obs.length →
    (∀ i, βs.length + i < (βs ++ ownVals rs vs).length → bv βf (βs.length + i) = (ownVals rs vs).getD i undef) → (βs ++ ownVals rs vs).length ≤ βf.length →
    (back rs y obs).1.length = vs.length ∧ ∀ (i : Nat) (h1 : i < (back rs y obs).1.length) (h2 : i < vs.length), RVRep w F' βf (back rs y obs).1[i] vs[i]
  | [], y, vs, obs, βs, βf, h, _, _, _, _ => ⟨by rw [show vs = _ from h]; rfl, fun i h1 => by cases h1⟩
  | [.val k], y, _, obs, βs, βf, ⟨v, rfl, h⟩, _, _, _, _ => ⟨rfl, fun i h1 h2 => by
    have : i = 0 := by simp at h2; omega
    subst this
    exact RdV.mono (fun b hb => ⟨hF b hb, rfl⟩) h⟩
  | [.own e], y, _, obs, βs, βf, ⟨v, rfl, h⟩, _, hl, hb, hle => ⟨rfl, fun i h1 h2 => by
    have : i = 0 := by simp at h2; omega
    subst this
    have := hb 0 (by simp [ownVals])
    refine ⟨by simp [ownVals] at hle; omega, ?_⟩
    rw [Nat.add_zero, hl] at this
    rw [this]; rfl⟩
  | .val k :: p :: os, y, _, obs, βs, βf, ⟨v, r, rfl, h1, h2⟩, hfl, hl, hb, hle => by
    obtain ⟨g1, g2⟩ := back_rep hF h2 (fun o ho => hfl o (List.mem_cons_of_mem _ ho)) hl hb hle
    refine ⟨by simp only [back, oneBack, List.length_cons]; omega, fun i q1 q2 => ?_⟩
    cases i with
    | zero => exact RdV.mono (fun b hb => ⟨hF b hb, rfl⟩) h1
    | succ i => exact g2 i (by simpa [back, oneBack] using q1) (by simpa using q2)
  | .own e :: p :: os, y, _, obs, βs, βf, ⟨v, r, rfl, h1, h2⟩, hfl, hl, hb, hle => by
    have hb0 := hb 0 (by simp [ownVals])
    obtain ⟨g1, g2⟩ := back_rep (obs := obs ++ [.arr e y.1]) (βs := βs ++ [v]) (βf := βf) hF h2 (fun o ho => hfl o (List.mem_cons_of_mem _ ho)) (by simp [hl]) (fun i hi => by
      have := hb (i + 1) (by simp [ownVals] at hi ⊢; omega)
      rw [List.length_append, List.length_singleton, Nat.add_assoc, Nat.add_comm 1 i, this]
      simp [ownVals]) (by simpa [ownVals] using hle)
    refine ⟨by simp only [back, oneBack, List.length_cons]; omega, fun i q1 q2 => ?_⟩
    cases i with
    | zero =>
      refine ⟨by simp [ownVals] at hle; omega, ?_⟩
      rw [Nat.add_zero, hl] at hb0
      rw [hb0]; rfl
    | succ i => exact g2 i (by simpa [back, oneBack] using q1) (by simpa using q2)

end Go.Proofs.YtocgdpnealaoeaaDoor.Ev
