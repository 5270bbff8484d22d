/- The small evaluator is right: a function ends; functions (this session's own). No condition. -/
import Derived.Test.YtocgdpnealaoeaaDoorEv1
namespace Go.Proofs.YtocgdpnealaoeaaDoor.Ev
open Go.RowKit
set_option linter.unusedVariables false
set_option linter.unusedSimpArgs false

variable {P : Program} {J : Inv} {Γ : Ctx} {B : Base} {C : LBase} {βs : List Value} {st : St} {a : Act} {w w' : World} {obs obs1 obs2 : List Ob}

/-- how a result is read -/
def resRun (tmps : Array Value) : ResultVar → Sem Value
  | .tmp t => pure (tmps.getD t undef)
  | .cell a t => do loadVar t (← asAddr (tmps.getD a undef))
theorem results_run {fn : Func} {tmps : Array Value} {vs : List Value} (h : (fn.results.toList.mapM (resRun tmps)).run P w = .ok vs w') : (results fn tmps).run P w = .ok (tupV vs) w' := by
  have h0 : results fn tmps = (do let vs ← fn.results.mapM (resRun tmps); pure (if h : vs.size = 1 then vs[0] else .tuple vs)) := by
    unfold results
    refine congrArg (· >>= _) (congrArg (fun f => Array.mapM f fn.results) (funext fun r => ?_))
    cases r <;> rfl
  rw [h0, Array.mapM_eq_mapM_toList]
  have : tupV vs = (if h : vs.toArray.size = 1 then vs.toArray[0] else .tuple vs.toArray) := by
    cases vs with
    | nil => rfl
    | cons v r => cases r <;> rfl
  simp [h, this]

theorem load_as {t : Nat} {v x : Value} (h : (Instr.loadAt t v).run P w = .ok x w') : (do loadVar t (← asAddr v) : Sem Value).run P w = .ok x w' := by
  unfold Instr.loadAt at h
  cases v with
  | pointer p =>
    cases p with
    | some ad => exact h
    | none => simp [Instr.sureAddr] at h
  | _ => simp [Instr.sureAddr] at h

/-- behind a step slots tell what they told -/
theorem TR.step {wr : Nat → Bool} {βs' : List Value} {tv : TV} {v : Value} (h : Rep' P J B βs obs w) (s : Step B βs obs wr w βs' obs1 w') (ht : TR P J B βs obs w tv v) : TR P J B βs' obs1 w' tv v :=
  TVRep.mono (fun b hb => s.block b (Nat.lt_of_lt_of_le hb.1 h.base) (fun ho => (h.own b ho).1.elim (fun q => by have := hb.1; omega) hb.2)) s.size (s.own_keep h) s.blen s.bext ht
theorem TVs.step {wr : Nat → Bool} {βs' : List Value} (h : Rep' P J B βs obs w) (s : Step B βs obs wr w βs' obs1 w') : ∀ {tvs : List TV} {vs : List Value}, TVs P J B βs obs w tvs vs → TVs P J B βs' obs1 w' tvs vs
  | [], vs, ht => ht
  | tv :: tvs, _, ⟨v, r, rfl, h1, h2⟩ => ⟨v, r, rfl, TR.step h s h1, TVs.step h s h2⟩

theorem resTVs_ok (hΓ : CtxOK P J Γ) {tmps : Array Value} {βs : List Value} {w : World} : ∀ {l : List ResultVar} {st st1 : St} {tvs : List TV}, Rep' P J B βs st.obs w → (∀ s, TR P J B βs st.obs w (st.get s) (tmps.getD s undef)) → resTVs Γ l st = some (tvs, st1) →
    ∃ vs, (l.mapM (resRun tmps)).run P w = .ok vs w ∧ Step B βs st.obs st.wr w βs st1.obs w ∧ TVs P J B βs st1.obs w tvs vs ∧ (st1.lk = st.lk ∧ st1.op = st.op)
  | [], st, st1, tvs, h, ht, he => by
    simp only [resTVs] at he
    cases he
    exact ⟨[], by simp, h.step_refl _, rfl, rfl, rfl⟩
  | r :: l, st, st1, tvs, h, ht, he => by
    simp only [resTVs] at he
    split at he
    · rename_i tv obs hr
      split at he
      · rename_i tvs' st1' hl
        cases he
        have one : ∃ v, (resRun tmps r).run P w = .ok v w ∧ Step B βs st.obs st.wr w βs obs w ∧ TVRep P J w (Fz B βs obs w) B.S βs tv v := by
          cases r with
          | tmp t =>
            simp only [resTV] at hr
            cases hr
            exact ⟨_, by simp [resRun], h.step_refl _, ht t⟩
          | cell a t =>
            obtain ⟨v, g1, g2, g3⟩ := evLoadN_ok hΓ h (ht a) (show (evLoad Γ st.wr t (st.get a) st.obs).To (tv, obs) from hr)
            exact ⟨v, load_as g1, g2, g3⟩
        obtain ⟨v, g1, g2, g3⟩ := one
        have hr1 := g2.rep' h
        obtain ⟨vs, k1, k2, k3, k4, k5⟩ := resTVs_ok hΓ (tmps := tmps) (st := st.with obs) hr1 (fun s => TR.step h g2 (ht s)) hl
        refine ⟨v :: vs, ?_, g2.trans k2, ⟨v, vs, rfl, TR.step hr1 k2 g3, k3⟩, k4, k5⟩
        simp [List.mapM_cons, g1, k1]
      · cases he
    · cases he

theorem ownRs_pm : ∀ (rs : List Lm) (vs : List Value), ownRs rs vs = ownBs (rs.map Lm.pm) vs
  | [], _ => rfl
  | .val _ :: rs, [] => rfl
  | .own _ :: rs, [] => rfl
  | .val _ :: rs, v :: vs => by simp only [ownRs, List.map_cons, Lm.pm, ownBs]; exact ownRs_pm rs vs
  | .own _ :: rs, v :: vs => by simp only [ownRs, List.map_cons, Lm.pm, ownBs]; rw [ownRs_pm rs vs]

theorem retOne_rep (h : Rep' P J B βs obs w) (hd : Drops obs obs1) {F' : Nat → Prop} (hF : ∀ b, Fz B βs obs w b → F' b) (hO : ∀ b, Own βs obs1 b → F' b) {o : Lm} {tv : TV} {v : Value} {y : o.T} (ht : TR P J B βs obs w tv v) (hy : retOne o tv obs obs1 = some y) : RetRep w F' o y v := by
  cases o with
  | val k =>
    refine toVal_S h hd hF ht hy (fun L b hL hb => hO b ⟨L, ?_, ?_, hb⟩)
    · have hl : (getOb obs1 L).live = true := by
        rcases hL with ⟨_, e, l, q⟩ | ⟨_, kk, kv, m, q⟩ <;> rw [q] <;> rfl
      rw [h.obs.len, ← hd.1]; exact getOb_live_lt hl
    · rcases hL with ⟨_, e, l, q⟩ | ⟨_, kk, kv, m, q⟩ <;> rw [q] <;> rfl
  | own e =>
    show ObRep w F' [] v (.arr e y)
    simp only [retOne] at hy
    split at hy
    · rename_i L
      split at hy
      · rename_i e' l ho
        obtain ⟨rfl, hll⟩ := cast_slice hy
        obtain rfl : l = y := hll
        obtain ⟨hL, rfl⟩ := ht
        have hr := h.obs.rep L hL
        rw [ho] at hr
        rcases hr with q | ⟨b, off, cap, c, tt, fr, q1, q2, q3, q4, q5, q6⟩
        · exact .inl q
        · refine .inr ⟨b, off, cap, c, tt, fr, q1, q2, q3, q4, q5, fun i hi => ?_⟩
          obtain ⟨cs, c1, c2, c3⟩ := q6 i hi
          exact ⟨cs, c1, c2, Rd.mono (fun b hb => ⟨hF b hb, rfl⟩) c3⟩
      · cases hy
    · cases hy; exact .inl ⟨ht, rfl⟩
    · cases hy; exact .inl ⟨ht, rfl⟩
    · cases hy
theorem retAll_rep (h : Rep' P J B βs obs w) (hd : Drops obs obs1) {F' : Nat → Prop} (hF : ∀ b, Fz B βs obs w b → F' b) (hO : ∀ b, Own βs obs1 b → F' b) : ∀ {os : List Lm} {tvs : List TV} {vs : List Value} {y : OT os}, TVs P J B βs obs w tvs vs → retAll os tvs obs obs1 = some y → RetsRep w F' os y vs
  | [], [], vs, y, ht, hy => ht
  | [o], [tv], vs, y, ht, hy => by
    obtain ⟨v, r, rfl, h1, h2⟩ := ht
    have h2 : r = [] := h2
    subst h2
    exact ⟨v, rfl, retOne_rep h hd hF hO h1 hy⟩
  | o :: p :: os, tv :: tvs, vs, y, ht, hy => by
    obtain ⟨v, r, rfl, h1, h2⟩ := ht
    simp only [retAll] at hy
    split at hy
    · rename_i x xs hx hxs
      cases hy
      exact ⟨v, r, rfl, retOne_rep h hd hF hO h1 hx, retAll_rep h hd hF hO h2 hxs⟩
    · cases hy
  | [], _ :: _, _, _, _, hx => by simp [retAll] at hx
  | [_], [], _, _, _, hx => by simp [retAll] at hx
  | _ :: _ :: _, [], _, _, _, hx => by simp [retAll] at hx
  | [_], _ :: _ :: _, _, _, _, hx => by simp [retAll] at hx

theorem finish_ok (hΓ : CtxOK P J Γ) (hB : B.Ok J) {fn : Func} {rs : List Lm} {y : OT rs} (h : Rep P J B C βs st a w) (hf : finish Γ rs fn.results.toList st = some y) :
    ∃ v, (results fn a.tmps).run P w = .ok v w ∧ Post B rs y (.returned v) w := by
  unfold finish at hf
  split at hf
  case h_2 => cases hf
  rename_i tvs st1 hr
  split at hf
  case h_2 => cases hf
  rename_i obs2 hg
  obtain ⟨vs, g1, g2, g3, g4, g5⟩ := resTVs_ok hΓ (h.toRep' hB) h.tmps hr
  have h1 := g2.rep' (h.toRep' hB)
  obtain ⟨m1, m2, m3, m4, m5, m6⟩ := moved_ok h1 ⟨rfl, fun _ => .inl rfl⟩ (fun _ q => q) hg g3 (fun _ _ _ => rfl)
  have hext : Ext B w := h.ext
  refine ⟨tupV vs, results_run g1, vs, rfl, ?_, by rw [ownRs_pm]; exact m3, fun b hb => ?_, hext⟩
  · refine retAll_rep h1 m1 (fun b hb => ?_) (fun b hb => ?_) g3 hf
    · rcases hb with hb | hb
      · exact .inl hb
      · exact .inr ⟨hb.1, hb.2.1, fun q => hb.2.2 (m4 b (by rw [← ownRs_pm]; exact q)).1⟩
    · have := h1.own b (m5 b hb)
      exact .inr ⟨this.1, this.2, fun q => (m4 b (by rw [← ownRs_pm]; exact q)).2 hb⟩
  · rw [ownRs_pm] at hb
    exact h1.own b (m4 b hb).1

/-- ████ a function of the program is what the evaluator says ████ -/
theorem runFn_ok (hΓ : CtxOK P J Γ) {g k : Nat} {ps : List Pm} {rs : List Lm} {x : PT ps} {y : OT rs} {fn : Func} {c : Code} (hf : P.funcs[g]? = some fn) (hb : fn.body = some c) (hn : ps.length ≤ fn.ntmps) {B : Base} {vals : List Value} (hB : B.Ok J)
    (hargs : ArgsRep P J B.w0 B.F0 B.S ps x vals) (hnd : (ownBs ps vals).Nodup) (hG : ∀ b ∈ ownBs ps vals, B.G b ∧ b < B.n0) (he : runFn Γ k ps rs fn.ntmps fn.results.toList c x = some y) :
    Calls P g vals.toArray B.w0 (Post B rs y) := by
  refine calls_of_wp hf hb ?_
  have h0 := start_rep (n := fn.ntmps) hB hn hargs hnd hG
  have fin : ∀ (βs : List Value) (st : St) (a : Act) (w : World), Rep P J B (noBase B) βs st a w → SameLocks (start ps fn.ntmps x) st → finish Γ rs fn.results.toList st = some y → a.defers = [] ∧ ∃ v, (results fn a.tmps).run P w = .ok v w ∧ Post B rs y (.returned v) w := fun βs st a w h1 _ he1 =>
    ⟨h1.defers, finish_ok hΓ hB h1 he1⟩
  exact exec_ok hΓ hB (k := k) (r := y) c (C := noBase B) (E := ⟨fun _ _ => none, finish Γ rs fn.results.toList⟩) (K := finish Γ rs fn.results.toList) (Q := bodyPost P fn (Post B rs y)) (st0 := start ps fn.ntmps x) (fun _ _ q => q) fin (fun id βs st a w _ _ q => (by cases q)) fin h0 ⟨rfl, rfl, rfl⟩ he

theorem fnOK_of (hΓ : CtxOK P J Γ) {g : Nat} {F : Fn} {fn : Func} {c : Code} (hf : P.funcs[g]? = some fn) (hb : fn.body = some c) (hnm : (fn.name == "runtime.NumGoroutine") = false) (hn : F.ps.length ≤ fn.ntmps)
    (he : ∀ k x, F.f k x = runFn Γ k F.ps F.rs fn.ntmps fn.results.toList c x) : FnOK P J g F :=
  ⟨⟨fn, hf, by rw [hb]; rfl, hnm⟩, fun k B vals x y hB hargs hnd hG hy => runFn_ok hΓ hf hb hn hB hargs hnd hG (by rw [← he k x]; exact hy)⟩

/-! ### tables -/
def AllL {α : Type} (Q : Nat → α → Prop) : List (Nat × α) → Prop
  | [] => True
  | p :: r => Q p.1 p.2 ∧ AllL Q r
theorem AllL.get {α : Type} {Q : Nat → α → Prop} : ∀ {l : List (Nat × α)}, AllL Q l → ∀ t y, alookup l t = some y → Q t y
  | [], _, t, y, h => by cases h
  | (k, v) :: r, hq, t, y, h => by
    simp only [alookup] at h
    cases hb : Nat.beq k t
    · rw [hb] at h
      exact AllL.get hq.2 t y h
    · rw [hb] at h
      cases h
      rw [← Nat.eq_of_beq_eq_true hb]; exact hq.1

end Go.Proofs.YtocgdpnealaoeaaDoor.Ev
