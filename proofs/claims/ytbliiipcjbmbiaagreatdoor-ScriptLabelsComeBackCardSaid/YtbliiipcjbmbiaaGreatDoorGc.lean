/- A part of a small evaluator of the program's own code over plain data, or of the plain laws behind it (this session's own). No condition but those in the statements. -/
import Derived.Test.YtbliiipcjbmbiaaGreatDoorEvZ
import Derived.SizedLaws
import Derived.ChangeArms
import Derived.DataReads
import Derived.Laws.AppendOwn
import Derived.Lib.SplitLaws
import Derived.Lib.Bytealg
import Derived.Test.YtbliiipcjbmbiaaGreatDoorGb
import Derived.Test.YtbliiipcjbmbiaaGreatDoorEvS
import Derived.Laws.Strings
import Derived.Defers
import Derived.Shelf.SlLaysE0
import Derived.Shelf.SlicesE.Clone
import Derived.Shelf.RegionOpenPlain
import Derived.WalkKit
import Derived.Deep.LoopGhost
import Derived.Lib.Walk
import Derived.Lib.SliceRun
import Derived.Shelf.Strings.SlTrimAscii
import Derived.Lib.Join
import Derived.Lib.IndexMore
import Derived.Shelf.SlSortCmp.WholeK
import Derived.Shelf.SlSortCmp.NoneTotal
import Derived.Shelf.SortM.Plain
import Derived.Shelf.SortM.SortNone
namespace Go.Proofs.YtbliiipcjbmbiaaGreatDoor.Ev
open Go.RowKit
set_option linter.unusedVariables false
set_option linter.unusedSimpArgs false

variable {P : Program} {J : Inv} {Γ : Ctx} {B : Base} {C : LBase} {βs : List Value} {st : St} {a : Act} {w w' : World} {obs obs1 obs2 : List Ob}

theorem nodup_flat : ∀ {l : List Value}, (l.flatMap fun v => (bOf v).toList).Nodup → ∀ i j b, bOf (l.getD i undef) = some b → bOf (l.getD j undef) = some b → i = j
  | [], _ => by intro i j b h; simp [undef, bOf] at h
  | v :: l, h => by
    rw [List.flatMap_cons, List.nodup_append] at h
    have ih := nodup_flat h.2.1
    have one : ∀ b j, bOf v = some b → bOf (l.getD j undef) = some b → False := fun b j hv hj => by
      have hj' : j < l.length := by
        rcases Nat.lt_or_ge j l.length with q | q
        · exact q
        · simp [List.getElem?_eq_none q, undef, bOf] at hj
      refine h.2.2 b (by rw [hv]; simp) b (List.mem_flatMap.2 ⟨l[j], List.getElem_mem hj', ?_⟩) rfl
      have : l.getD j undef = l[j] := by simp [hj']
      rw [this] at hj
      rw [hj]; simp
    intro i j b hi hj
    cases i <;> cases j
    · rfl
    · exact (one b _ hi hj).elim
    · exact (one b _ hj hi).elim
    · exact congrArg (· + 1) (ih _ _ b hi hj)

def argVals : List Pm → List Value → List Value
  | .own _ :: ps, v :: vs => v :: argVals ps vs
  | .val _ :: ps, _ :: vs => argVals ps vs
  | .rptr _ :: ps, _ :: vs => argVals ps vs
  | .fnv _ _ :: ps, _ :: vs => argVals ps vs
  | .nil _ :: ps, _ :: vs => argVals ps vs
  | _, _ => []
theorem ownBs_vals : ∀ (ps : List Pm) (vs : List Value), ownBs ps vs = (argVals ps vs).flatMap fun v => (bOf v).toList
  | [], _ => rfl
  | .val _ :: ps, [] => rfl
  | .own _ :: ps, [] => rfl
  | .rptr _ :: ps, [] => rfl
  | .fnv _ _ :: ps, [] => rfl
  | .nil _ :: ps, [] => rfl
  | .val _ :: ps, v :: vs => by simp only [ownBs, argVals]; exact ownBs_vals ps vs
  | .rptr _ :: ps, v :: vs => by simp only [ownBs, argVals]; exact ownBs_vals ps vs
  | .fnv _ _ :: ps, v :: vs => by simp only [ownBs, argVals]; exact ownBs_vals ps vs
  | .nil _ :: ps, v :: vs => by simp only [ownBs, argVals]; exact ownBs_vals ps vs
  | .own _ :: ps, v :: vs => by simp only [ownBs, argVals, List.flatMap_cons]; rw [ownBs_vals ps vs]
def argObs : (ps : List Pm) → PT ps → List Ob
  | [], _ => []
  | .val _ :: ps, x => argObs ps x.2
  | .own e :: ps, x => .arr e x.1 :: argObs ps x.2
  | .rptr _ :: ps, x => argObs ps x.2
  | .fnv _ _ :: ps, x => argObs ps x.2
  | .nil _ :: ps, x => argObs ps x.2

theorem ArgsRep.length {F S : Nat → Prop} : ∀ {ps : List Pm} {x : PT ps} {vals : List Value}, ArgsRep P J w F S ps x vals → vals.length = ps.length
  | [], x, vals, h => by rw [show vals = _ from h]; rfl
  | p :: ps, x, vals, ⟨v, r, e, _, h⟩ => by subst e; simp [h.length]

theorem enterAll_rep {F S : Nat → Prop} : ∀ {ps : List Pm} {x : PT ps} {vals : List Value} {obs : List Ob} {βs βf : List Value}, ArgsRep P J w F S ps x vals → βs.length = obs.length →
    (∀ i, i < (argVals ps vals).length → bv βf (βs.length + i) = (argVals ps vals).getD i undef) → (βs ++ argVals ps vals).length ≤ βf.length →
    (enterAll ps x obs).2 = obs ++ argObs ps x ∧ (argObs ps x).length = (argVals ps vals).length ∧ (enterAll ps x obs).1.length = vals.length ∧
    (∀ i, ∀ tv, (enterAll ps x obs).1[i]? = some tv → TVRep P J w F S βf tv (vals.getD i undef)) ∧
    ∀ (i : Nat) (h1 : i < (argObs ps x).length), ∃ e l, (argObs ps x)[i] = .arr e l ∧ ObRep w F [] ((argVals ps vals).getD i undef) (.arr e l)
  | [], x, vals, obs, βs, βf, h, _, _, _ => by
    rw [show vals = _ from h]
    exact ⟨by simp [enterAll, argObs], rfl, rfl, fun i tv q => by simp [enterAll] at q, fun i q => by cases q⟩
  | p :: ps, x, _, obs, βs, βf, ⟨v, r, rfl, h1, h2⟩, hl, hb, hle => by
    have cons : ∀ {t0 : TV} {l : List TV}, TVRep P J w F S βf t0 v → (∀ i, ∀ tv, l[i]? = some tv → TVRep P J w F S βf tv (r.getD i undef)) → ∀ i, ∀ tv, (t0 :: l)[i]? = some tv → TVRep P J w F S βf tv ((v :: r).getD i undef) := by
      intro t0 l q1 q2 i tv q
      cases i with
      | zero => simp at q; subst q; exact q1
      | succ i => exact q2 i tv (by simpa using q)
    have mono0 : ∀ {tv : TV}, TVRep P J w F S [] tv v → TVRep P J w F S βf tv v := fun {tv} q => q.mono (fun _ _ => rfl) (Nat.le_refl _) (fun _ q => ⟨q, rfl⟩) (by simp) (by simp)
    cases p with
    | val k =>
      obtain ⟨g1, g2, g3, g4, g5⟩ := enterAll_rep (obs := obs) (βf := βf) h2 hl hb hle
      exact ⟨g1, g2, by simpa [enterAll, enterOne] using g3, cons h1 g4, g5⟩
    | rptr k =>
      obtain ⟨g1, g2, g3, g4, g5⟩ := enterAll_rep (obs := obs) (βf := βf) h2 hl hb hle
      exact ⟨g1, g2, by simpa [enterAll, enterOne] using g3, cons (mono0 h1) g4, g5⟩
    | fnv a' r' =>
      obtain ⟨g1, g2, g3, g4, g5⟩ := enterAll_rep (obs := obs) (βf := βf) h2 hl hb hle
      exact ⟨g1, g2, by simpa [enterAll, enterOne] using g3, cons (by exact h1) g4, g5⟩
    | nil e =>
      obtain ⟨g1, g2, g3, g4, g5⟩ := enterAll_rep (obs := obs) (βf := βf) h2 hl hb hle
      exact ⟨g1, g2, by simpa [enterAll, enterOne] using g3, cons h1 g4, g5⟩
    | own e =>
      have hb0 := hb 0 (by simp [argVals])
      obtain ⟨g1, g2, g3, g4, g5⟩ := enterAll_rep (obs := obs ++ [.arr e x.1]) (βs := βs ++ [v]) (βf := βf) h2 (by simp [hl]) (fun i hi => by
        have := hb (i + 1) (by simp [argVals]; omega)
        rw [List.length_append, List.length_singleton, Nat.add_assoc, Nat.add_comm 1 i, this]
        simp [argVals]) (by simpa [argVals] using hle)
      refine ⟨?_, by simp [argObs, argVals, g2], by simpa [enterAll, enterOne] using g3, cons ?_ g4, ?_⟩
      · simp only [enterAll, enterOne, argObs]
        rw [g1, List.append_assoc]; rfl
      · refine ⟨by simp [argVals] at hle; omega, ?_⟩
        rw [Nat.add_zero, hl] at hb0
        rw [hb0]; rfl
      · intro i q1
        cases i with
        | zero => exact ⟨e, x.1, rfl, h1⟩
        | succ i => exact g5 i (by simpa [argObs] using q1)

theorem tget_number : ∀ {l : List TV} {i s : Nat}, tget (number i l) s = if i ≤ s then l.getD (s - i) .dead else .dead
  | [], i, s => by simp [number, tget]
  | tv :: l, i, s => by
    simp only [number]
    rw [tget_cons, tget_number (l := l)]
    by_cases e : i = s
    · subst e; simp
    · rw [if_neg e]
      by_cases q : i ≤ s
      · rw [if_pos q, if_pos (by omega)]
        have : s - i = s - (i + 1) + 1 := by omega
        rw [this]; simp
      · rw [if_neg q, if_neg (by omega)]

def noBase (B : Base) : LBase := { kept := fun _ => False, V := fun _ => undef, Fb := fun _ => False, wb := B.w0, βb := [], ob := [] }
def actOf (vals : List Value) (n : Nat) : Act := { tmps := vals.toArray ++ Array.replicate (n - vals.toArray.size) undef, defers := [] }

theorem start_rep (hB : B.Ok J) {ps : List Pm} {x : PT ps} {vals : List Value} {n : Nat} (hn : ps.length ≤ n) (h : ArgsRep P J B.w0 B.F0 B.S ps x vals) (hnd : (ownBs ps vals).Nodup) (hG : ∀ b ∈ ownBs ps vals, B.G b ∧ b < B.n0) :
    Rep P J B (noBase B) (argVals ps vals) (start ps n x) (actOf vals n) B.w0 := by
  have hF : ∀ b, B.F0 b → Fz B (argVals ps vals) (argObs ps x) B.w0 b ∧ B.w0.heap[b]? = B.w0.heap[b]? := fun b hb => ⟨.inl hb, rfl⟩
  obtain ⟨g1, g2, g3, g4, g5⟩ := enterAll_rep (obs := []) (βs := []) (βf := argVals ps vals) h rfl (fun i _ => by simp [bv]) (by simp)
  rw [List.nil_append] at g1
  rw [ownBs_vals] at hnd hG
  have hobs : (start ps n x).obs = argObs ps x := g1
  have hown : ∀ b, Own (argVals ps vals) (argObs ps x) b → B.G b ∧ b < B.n0 := by
    rintro b ⟨L, hL, _, q⟩
    refine hG b (List.mem_flatMap.2 ⟨(argVals ps vals)[L], List.getElem_mem hL, ?_⟩)
    have : bv (argVals ps vals) L = (argVals ps vals)[L] := by simp [bv, hL]
    rw [this] at q
    rw [q]; simp
  have hvl := h.length
  refine ⟨⟨rfl, rfl, rfl, Nat.le_refl _, fun _ _ _ => rfl⟩, fun b hb => ?_, fun L L' b _ _ _ _ q1 q2 => nodup_flat hnd L L' b q1 q2, by rw [hobs, g2], fun L hL => ?_, fun s => ?_, ?_, rfl, fun s hs => hs.elim, fun b hb => hb.elim, Nat.le_refl _, Nat.zero_le _, fun L hL => (by cases hL), fun L hL => (by cases hL)⟩
  · rw [hobs] at hb
    have := hown b hb
    exact ⟨.inr this.1, this.2⟩
  · rw [hobs]
    obtain ⟨e, l, q1, q2⟩ := g5 L (by rw [g2]; exact hL)
    have : getOb (argObs ps x) L = .arr e l := by
      unfold getOb
      rw [List.getD_eq_getElem?_getD, List.getElem?_eq_getElem (by rw [g2]; exact hL), q1]; rfl
    rw [this]
    exact q2.mono hF (by simp) (by simp) (fun _ _ _ => rfl)
  · show TVRep P J B.w0 _ B.S _ (tget (number 0 (enterAll ps x []).1) s) _
    rw [tget_number, if_pos (Nat.zero_le _), Nat.sub_zero, hobs]
    rcases Nat.lt_or_ge s (enterAll ps x []).1.length with q | q
    · have q1 : (enterAll ps x []).1[s]? = some (enterAll ps x []).1[s] := List.getElem?_eq_getElem q
      have := g4 s _ q1
      have e : (actOf vals n).tmps.getD s undef = vals.getD s undef := by
        have hs : s < vals.length := by omega
        simp [actOf, hs, Array.getElem?_append]
      rw [e]
      have e2 : (enterAll ps x []).1.getD s TV.dead = (enterAll ps x []).1[s] := by simp [q]
      rw [e2]
      exact this.mono (fun _ _ => rfl) (Nat.le_refl _) hF (Nat.le_refl _) (fun _ _ => rfl)
    · have e2 : (enterAll ps x []).1.getD s TV.dead = .dead := by simp [List.getElem?_eq_none q]
      rw [e2]; trivial
  · show (vals.toArray ++ Array.replicate (n - vals.toArray.size) undef).size = n
    simp; omega

end Go.Proofs.YtbliiipcjbmbiaaGreatDoor.Ev

namespace Go.Proofs.YtbliiipcjbmbiaaGreatDoor.Ev
open Go.RowKit
set_option linter.unusedVariables false
set_option linter.unusedSimpArgs false

variable {P : Program} {J : Inv} {Γ : Ctx} {B : Base} {C : LBase} {βs : List Value} {st : St} {a : Act} {w w' : World} {obs obs1 obs2 : List Ob}

/-- how a result is read -/
def resRun (tmps : Array Value) : ResultVar → Sem Value
  | .tmp t => pure (tmps.getD t undef)
  | .cell a t => do loadVar t (← asAddr (tmps.getD a undef))
theorem results_run {fn : Func} {tmps : Array Value} {vs : List Value} (h : (fn.results.toList.mapM (resRun tmps)).run P w = .ok vs w') : (results fn tmps).run P w = .ok (tupV vs) w' := by
  have h0 : results fn tmps = (do let vs ← fn.results.mapM (resRun tmps); pure (if h : vs.size = 1 then vs[0] else .tuple vs)) := by
    unfold results
    refine congrArg (· >>= _) (congrArg (fun f => Array.mapM f fn.results) (funext fun r => ?_))
    cases r <;> rfl
  rw [h0, Array.mapM_eq_mapM_toList]
  have : tupV vs = (if h : vs.toArray.size = 1 then vs.toArray[0] else .tuple vs.toArray) := by
    cases vs with
    | nil => rfl
    | cons v r => cases r <;> rfl
  simp [h, this]

theorem load_as {t : Nat} {v x : Value} (h : (Instr.loadAt t v).run P w = .ok x w') : (do loadVar t (← asAddr v) : Sem Value).run P w = .ok x w' := by
  unfold Instr.loadAt at h
  cases v with
  | pointer p =>
    cases p with
    | some ad => exact h
    | none => simp [Instr.sureAddr] at h
  | _ => simp [Instr.sureAddr] at h

/-- behind a step slots tell what they told -/
theorem TR.step {wr : Nat → Bool} {βs' : List Value} {tv : TV} {v : Value} (h : Rep' P J B βs obs w) (s : Step B βs obs wr w βs' obs1 w') (ht : TR P J B βs obs w tv v) : TR P J B βs' obs1 w' tv v :=
  TVRep.mono (fun b hb => s.block b (Nat.lt_of_lt_of_le hb.1 h.base) (fun ho => (h.own b ho).1.elim (fun q => by have := hb.1; omega) hb.2)) s.size (s.own_keep h) s.blen s.bext ht
theorem TVs.step {wr : Nat → Bool} {βs' : List Value} (h : Rep' P J B βs obs w) (s : Step B βs obs wr w βs' obs1 w') : ∀ {tvs : List TV} {vs : List Value}, TVs P J B βs obs w tvs vs → TVs P J B βs' obs1 w' tvs vs
  | [], vs, ht => ht
  | tv :: tvs, _, ⟨v, r, rfl, h1, h2⟩ => ⟨v, r, rfl, TR.step h s h1, TVs.step h s h2⟩

theorem resTVs_ok (hΓ : CtxOK P J Γ) {tmps : Array Value} {βs : List Value} {w : World} : ∀ {l : List ResultVar} {st st1 : St} {tvs : List TV}, Rep' P J B βs st.obs w → (∀ s, TR P J B βs st.obs w (st.get s) (tmps.getD s undef)) → resTVs Γ l st = some (tvs, st1) →
    ∃ vs, (l.mapM (resRun tmps)).run P w = .ok vs w ∧ Step B βs st.obs st.wr w βs st1.obs w ∧ TVs P J B βs st1.obs w tvs vs ∧ (st1.lk = st.lk ∧ st1.op = st.op)
  | [], st, st1, tvs, h, ht, he => by
    simp only [resTVs] at he
    cases he
    exact ⟨[], by simp, h.step_refl _, rfl, rfl, rfl⟩
  | r :: l, st, st1, tvs, h, ht, he => by
    simp only [resTVs] at he
    split at he
    · rename_i tv obs hr
      split at he
      · rename_i tvs' st1' hl
        cases he
        have one : ∃ v, (resRun tmps r).run P w = .ok v w ∧ Step B βs st.obs st.wr w βs obs w ∧ TVRep P J w (Fz B βs obs w) B.S βs tv v := by
          cases r with
          | tmp t =>
            simp only [resTV] at hr
            cases hr
            exact ⟨_, by simp [resRun], h.step_refl _, ht t⟩
          | cell a t =>
            obtain ⟨v, g1, g2, g3⟩ := evLoadN_ok hΓ h (ht a) (show (evLoad Γ st.wr t (st.get a) st.obs).To (tv, obs) from hr)
            exact ⟨v, load_as g1, g2, g3⟩
        obtain ⟨v, g1, g2, g3⟩ := one
        have hr1 := g2.rep' h
        obtain ⟨vs, k1, k2, k3, k4, k5⟩ := resTVs_ok hΓ (tmps := tmps) (st := st.with obs) hr1 (fun s => TR.step h g2 (ht s)) hl
        refine ⟨v :: vs, ?_, g2.trans k2, ⟨v, vs, rfl, TR.step hr1 k2 g3, k3⟩, k4, k5⟩
        simp [List.mapM_cons, g1, k1]
      · cases he
    · cases he

theorem ownRs_pm : ∀ (rs : List Lm) (vs : List Value), ownRs rs vs = ownBs (rs.map Lm.pm) vs
  | [], _ => rfl
  | .val _ :: rs, [] => rfl
  | .own _ :: rs, [] => rfl
  | .val _ :: rs, v :: vs => by simp only [ownRs, List.map_cons, Lm.pm, ownBs]; exact ownRs_pm rs vs
  | .own _ :: rs, v :: vs => by simp only [ownRs, List.map_cons, Lm.pm, ownBs]; rw [ownRs_pm rs vs]

theorem retOne_rep (h : Rep' P J B βs obs w) (hd : Drops obs obs1) {F' : Nat → Prop} (hF : ∀ b, Fz B βs obs w b → F' b) (hO : ∀ b, Own βs obs1 b → F' b) {o : Lm} {tv : TV} {v : Value} {y : o.T} (ht : TR P J B βs obs w tv v) (hy : retOne o tv obs obs1 = some y) : RetRep w F' o y v := by
  cases o with
  | val k =>
    refine toVal_S h hd hF ht hy (fun L b hL hb => hO b ⟨L, ?_, ?_, hb⟩)
    · have hl : (getOb obs1 L).live = true := by
        rcases hL with ⟨_, e, l, q⟩ | ⟨_, kk, kv, m, q⟩ <;> rw [q] <;> rfl
      rw [h.obs.len, ← hd.1]; exact getOb_live_lt hl
    · rcases hL with ⟨_, e, l, q⟩ | ⟨_, kk, kv, m, q⟩ <;> rw [q] <;> rfl
  | own e =>
    show ObRep w F' [] v (.arr e y)
    simp only [retOne] at hy
    split at hy
    · rename_i L
      split at hy
      · rename_i e' l ho
        obtain ⟨rfl, hll⟩ := cast_slice hy
        obtain rfl : l = y := hll
        obtain ⟨hL, rfl⟩ := ht
        have hr := h.obs.rep L hL
        rw [ho] at hr
        rcases hr with q | ⟨b, off, cap, c, tt, fr, q1, q2, q3, q4, q5, q6⟩
        · exact .inl q
        · refine .inr ⟨b, off, cap, c, tt, fr, q1, q2, q3, q4, q5, fun i hi => ?_⟩
          obtain ⟨cs, c1, c2, c3⟩ := q6 i hi
          exact ⟨cs, c1, c2, Rd.mono (fun b hb => ⟨hF b hb, rfl⟩) c3⟩
      · cases hy
    · cases hy; exact .inl ⟨ht, rfl⟩
    · cases hy; exact .inl ⟨ht, rfl⟩
    · cases hy
theorem retAll_rep (h : Rep' P J B βs obs w) (hd : Drops obs obs1) {F' : Nat → Prop} (hF : ∀ b, Fz B βs obs w b → F' b) (hO : ∀ b, Own βs obs1 b → F' b) : ∀ {os : List Lm} {tvs : List TV} {vs : List Value} {y : OT os}, TVs P J B βs obs w tvs vs → retAll os tvs obs obs1 = some y → RetsRep w F' os y vs
  | [], [], vs, y, ht, hy => ht
  | [o], [tv], vs, y, ht, hy => by
    obtain ⟨v, r, rfl, h1, h2⟩ := ht
    have h2 : r = [] := h2
    subst h2
    exact ⟨v, rfl, retOne_rep h hd hF hO h1 hy⟩
  | o :: p :: os, tv :: tvs, vs, y, ht, hy => by
    obtain ⟨v, r, rfl, h1, h2⟩ := ht
    simp only [retAll] at hy
    split at hy
    · rename_i x xs hx hxs
      cases hy
      exact ⟨v, r, rfl, retOne_rep h hd hF hO h1 hx, retAll_rep h hd hF hO h2 hxs⟩
    · cases hy
  | [], _ :: _, _, _, _, hx => by simp [retAll] at hx
  | [_], [], _, _, _, hx => by simp [retAll] at hx
  | _ :: _ :: _, [], _, _, _, hx => by simp [retAll] at hx
  | [_], _ :: _ :: _, _, _, _, hx => by simp [retAll] at hx

theorem finish_ok (hΓ : CtxOK P J Γ) (hB : B.Ok J) {fn : Func} {rs : List Lm} {y : OT rs} (h : Rep P J B C βs st a w) (hf : finish Γ rs fn.results.toList st = some y) :
    ∃ v, (results fn a.tmps).run P w = .ok v w ∧ Post B rs y (.returned v) w := by
  unfold finish at hf
  split at hf
  case h_2 => cases hf
  rename_i tvs st1 hr
  split at hf
  case h_2 => cases hf
  rename_i obs2 hg
  obtain ⟨vs, g1, g2, g3, g4, g5⟩ := resTVs_ok hΓ (h.toRep' hB) h.tmps hr
  have h1 := g2.rep' (h.toRep' hB)
  obtain ⟨m1, m2, m3, m4, m5, m6⟩ := moved_ok h1 ⟨rfl, fun _ => .inl rfl⟩ (fun _ q => q) hg g3 (fun _ _ _ => rfl)
  have hext : Ext B w := h.ext
  refine ⟨tupV vs, results_run g1, vs, rfl, ?_, by rw [ownRs_pm]; exact m3, fun b hb => ?_, hext⟩
  · refine retAll_rep h1 m1 (fun b hb => ?_) (fun b hb => ?_) g3 hf
    · rcases hb with hb | hb
      · exact .inl hb
      · exact .inr ⟨hb.1, hb.2.1, fun q => hb.2.2 (m4 b (by rw [← ownRs_pm]; exact q)).1⟩
    · have := h1.own b (m5 b hb)
      exact .inr ⟨this.1, this.2, fun q => (m4 b (by rw [← ownRs_pm]; exact q)).2 hb⟩
  · rw [ownRs_pm] at hb
    exact h1.own b (m4 b hb).1

/-- ████ a function of the program is what the evaluator says ████ -/
theorem runFn_ok (hΓ : CtxOK P J Γ) {g k : Nat} {ps : List Pm} {rs : List Lm} {x : PT ps} {y : OT rs} {fn : Func} {c : Code} (hf : P.funcs[g]? = some fn) (hb : fn.body = some c) (hn : ps.length ≤ fn.ntmps) {B : Base} {vals : List Value} (hB : B.Ok J)
    (hargs : ArgsRep P J B.w0 B.F0 B.S ps x vals) (hnd : (ownBs ps vals).Nodup) (hG : ∀ b ∈ ownBs ps vals, B.G b ∧ b < B.n0) (he : runFn Γ k ps rs fn.ntmps fn.results.toList c x = some y) :
    Calls P g vals.toArray B.w0 (Post B rs y) := by
  refine calls_of_wp hf hb ?_
  have h0 := start_rep (n := fn.ntmps) hB hn hargs hnd hG
  have fin : ∀ (βs : List Value) (st : St) (a : Act) (w : World), Rep P J B (noBase B) βs st a w → SameLocks (start ps fn.ntmps x) st → finish Γ rs fn.results.toList st = some y → a.defers = [] ∧ ∃ v, (results fn a.tmps).run P w = .ok v w ∧ Post B rs y (.returned v) w := fun βs st a w h1 _ he1 =>
    ⟨h1.defers, finish_ok hΓ hB h1 he1⟩
  exact exec_ok hΓ hB (k := k) (r := y) c (C := noBase B) (E := ⟨fun _ _ => none, finish Γ rs fn.results.toList, noEq⟩) (K := finish Γ rs fn.results.toList) (Q := bodyPost P fn (Post B rs y)) (st0 := start ps fn.ntmps x) (fun _ _ q => q) fin (fun id βs st a w _ _ q => (by cases q)) fin h0 ⟨rfl, rfl, rfl⟩ he

theorem fnOK_of (hΓ : CtxOK P J Γ) {g : Nat} {F : Fn} {fn : Func} {c : Code} (hf : P.funcs[g]? = some fn) (hb : fn.body = some c) (hnm : (fn.name == "runtime.NumGoroutine") = false) (hn : F.ps.length ≤ fn.ntmps)
    (he : ∀ k x, F.f k x = runFn Γ k F.ps F.rs fn.ntmps fn.results.toList c x) : FnOK P J g F :=
  ⟨⟨fn, hf, by rw [hb]; rfl, hnm⟩, fun k B vals x y hB hargs hnd hG hy => runFn_ok hΓ hf hb hn hB hargs hnd hG (by rw [← he k x]; exact hy)⟩

/-! ### tables -/
def AllL {α : Type} (Q : Nat → α → Prop) : List (Nat × α) → Prop
  | [] => True
  | p :: r => Q p.1 p.2 ∧ AllL Q r
theorem AllL.get {α : Type} {Q : Nat → α → Prop} : ∀ {l : List (Nat × α)}, AllL Q l → ∀ t y, alookup l t = some y → Q t y
  | [], _, t, y, h => by cases h
  | (k, v) :: r, hq, t, y, h => by
    simp only [alookup] at h
    cases hb : Nat.beq k t
    · rw [hb] at h
      exact AllL.get hq.2 t y h
    · rw [hb] at h
      cases h
      rw [← Nat.eq_of_beq_eq_true hb]; exact hq.1

end Go.Proofs.YtbliiipcjbmbiaaGreatDoor.Ev

namespace Go.Proofs.YtbliiipcjbmbiaaGreatDoor.Ev
open Go.RowKit
set_option linter.unusedVariables false
set_option linter.unusedSimpArgs false

/-- Whatever reads as data at type t reads as the kind k; Wf: what is known of it. -/
def RdT (P : Program) (t : TypeId) (k : Kd) (Wf : k.T → Prop) : Prop :=
  ∀ (H : Type) (enc : TypeId × Value → H) (w : World) (base : Nat) (spare : Nat → Bool) (held : Bool) (fuel : Nat) (cs : List Value) (x : DataW H × List MemPlace),
    DataW.trod enc P w base spare held fuel t cs = some x → (∀ n ∈ x.1.weights P t, n ≤ 140737488351232) → ∃ v : k.T, Rd w (fun b => b < w.heap.size) k cs v ∧ Wf v
theorem RdT.int {P : Program} {t : TypeId} {k : IntKind} (ht : P.underlying t = some (.int k)) : RdT P t (.int k) (fun n => (Lit.int k n).wf = true) := by
  intro H enc w base spare held fuel cs x h _
  obtain ⟨n, rfl, _, hw⟩ := DataW.trod_int ht h
  exact ⟨n, rfl, hw⟩
theorem RdT.bool {P : Program} {t : TypeId} (ht : P.underlying t = some .bool) : RdT P t .bool (fun _ => True) := by
  intro H enc w base spare held fuel cs x h _
  obtain ⟨n, rfl, _⟩ := DataW.trod_bool ht h
  exact ⟨n, rfl, trivial⟩
theorem RdT.str {P : Program} {t : TypeId} (ht : P.underlying t = some .string) : RdT P t .str (fun s => s.size ≤ 140737488351232) := by
  intro H enc w base spare held fuel cs x h hn
  obtain ⟨s, rfl, rfl, _⟩ := DataW.trod_string ht h
  refine ⟨s, rfl, ?_⟩
  have := hn s.data.toList.length (by simp [DataW.weights])
  simpa using this
theorem build_list {α : Type} {Q : Nat → α → Prop} : ∀ n : Nat, (∀ i, i < n → ∃ p, Q i p) → ∃ l : List α, l.length = n ∧ ∀ i p, l[i]? = some p → Q i p
  | 0, _ => ⟨[], rfl, fun i p h => by simp at h⟩
  | n + 1, h => by
    obtain ⟨l, hl, hq⟩ := build_list n (fun i hi => h i (by omega))
    obtain ⟨p, hp⟩ := h n (by omega)
    refine ⟨l ++ [p], by simp [hl], fun i q hi => ?_⟩
    rw [List.getElem?_append] at hi
    split at hi
    · exact hq i q hi
    · rename_i h1
      have : i = n := by
        have := (List.getElem?_eq_some_iff.1 hi).1
        simp at this
        omega
      subst this
      rw [hl] at hi
      simp at hi
      subst hi
      exact hp
def WfS {α : Type} (B : Nat) (Wf : α → Prop) (l : List α) : Prop := l.length ≤ 9223372036854775807 ∧ l.length * B ≤ 140737488351232 ∧ ∀ x ∈ l, Wf x
theorem weights_all {H : Type} {P : Program} {e : TypeId} {y : DataW H} {n : Nat} (hn : n ∈ y.weights P e) : ∀ {l : List (DataW H)}, y ∈ l → n ∈ DataW.weightsAll P e l
  | z :: l, hy => by
    simp only [DataW.weightsAll, List.mem_append]
    rcases List.mem_cons.1 hy with rfl | hy
    · exact .inl hn
    · exact .inr (weights_all hn hy)
theorem RdT.slice {P : Program} {t e : TypeId} {d : Kd} {Wf : d.T → Prop} {B : Nat} (ht : P.underlying t = some (.slice e)) (hsz : P.cellsOf e = d.sz) (hpos : 0 < d.sz) (hB : P.bytesOf e = B) (he : RdT P e d Wf) : RdT P t (.slice d) (WfS B Wf) := by
  intro H enc w base spare held fuel cs x h hn
  rcases DataW.trod_slice ht h with ⟨rfl, rfl⟩ | ⟨a, len, cap, elems, rest, n, rfl, rfl, rfl, hb, hl, hc, hel, hread, _, _⟩
  · exact ⟨[], ⟨none, 0, rfl, Nat.le_refl _, .inl rfl⟩, by simp, by simp, by simp⟩
  · have hlen : (elems.length + rest.length) * B ≤ 140737488351232 := by
      refine hn _ ?_
      simp [DataW.weights, ht, hB]
    obtain ⟨l, hll, hq⟩ := build_list (Q := fun i p => Wf p ∧ a.block < w.heap.size ∧ ∃ c : List Value, c.length = d.sz ∧ Rd w (fun b => b < w.heap.size) d c p ∧ ∀ j, j < d.sz → w.cell? (a.add (i * d.sz + j)) = c[j]?) len (by
      intro i hi
      have h1 := hread i hi
      have hie : i < elems.length := by omega
      rw [List.getElem?_eq_getElem hie] at h1
      obtain ⟨cs', hcs, htr⟩ := Option.bind_eq_some_iff.1 h1
      obtain ⟨v, hK, hW⟩ := he H enc w base spare held n cs' elems[i] htr (fun m hm => hn m (by
        simp only [DataW.weights, ht, List.mem_cons, List.mem_append]
        exact .inr (.inl (weights_all hm (List.mem_map.2 ⟨elems[i], List.getElem_mem hie, rfl⟩)))))
      obtain ⟨_, hlen', hcell⟩ := World.cells?_some hcs
      have hcl : cs'.length = d.sz := hlen'.trans hsz
      have hadd : ∀ j, (a.add (i * P.cellsOf e)).add j = a.add (i * d.sz + j) := fun j => by
        rw [hsz]
        unfold Addr.add
        by_cases h0 : i * d.sz = 0 <;> by_cases h1 : j = 0 <;> simp [h0, h1, Nat.add_assoc]
      have hc' : ∀ j, j < d.sz → w.cell? (a.add (i * d.sz + j)) = cs'[j]? := fun j hj => by
        rw [← hadd j]; exact hcell j (by rw [hsz]; exact hj)
      refine ⟨v, hW, ?_, cs', hcl, hK, hc'⟩
      have h0 := hc' 0 hpos
      rw [List.getElem?_eq_getElem (show 0 < cs'.length by omega)] at h0
      have hbk : (a.add (i * d.sz + 0)).block = a.block := add_block _ _
      rcases Nat.lt_or_ge a.block w.heap.size with q | q
      · exact q
      · exfalso
        unfold World.cell? at h0
        rw [hbk, Array.getElem?_eq_none q] at h0
        simp at h0)
    refine ⟨l, ⟨some a, cap, by rw [hll], by omega, ?_⟩, ?_, ?_, fun x hx => ?_⟩
    · cases l with
      | nil => exact .inl rfl
      | cons y l' =>
        refine .inr ⟨a, rfl, (hq 0 y rfl).2.1, fun i hi => ?_⟩
        obtain ⟨_, _, c, q1, q2, q3⟩ := hq i _ (List.getElem?_eq_getElem hi)
        exact ⟨c, q1, q3, q2⟩
    · rw [hll]
      unfold maxLen at hc
      omega
    · rw [hll]
      have : len * B ≤ (elems.length + rest.length) * B := Nat.mul_le_mul_right _ (by omega)
      omega
    · obtain ⟨i, hi⟩ := List.getElem?_of_mem hx
      exact (hq i x hi).1

/-- the fields of a struct from a place on -/
def RdFs (P : Program) : List (Nat × Nat) → Nat → (c : Kd) → (c.T → Prop) → Prop := fun l o c Wf =>
  ∀ (H : Type) (enc : TypeId × Value → H) (w : World) (base : Nat) (spare : Nat → Bool) (held : Bool) (fuel : Nat) (cs : List Value), cs.length = o + c.sz →
    (∀ f ∈ l, ∃ x, DataW.trod enc P w base spare held fuel f.2 ((cs.drop f.1).take (P.cellsOf f.2)) = some x ∧ ∀ n ∈ x.1.weights P f.2, n ≤ 140737488351232) → ∃ v : c.T, Rd w (fun b => b < w.heap.size) c (cs.drop o) v ∧ Wf v
theorem RdFs.nil {P : Program} {o : Nat} : RdFs P [] o .unit (fun _ => True) := by
  intro H enc w base spare held fuel cs hl _
  exact ⟨(), List.drop_eq_nil_of_le (by rw [hl]; exact Nat.le_refl _), trivial⟩
theorem RdFs.one {P : Program} {t o : Nat} {k : Kd} {Wf : k.T → Prop} (hc : P.cellsOf t = k.sz) (h : RdT P t k Wf) : RdFs P [(o, t)] o k Wf := by
  intro H enc w base spare held fuel cs hl hf
  obtain ⟨x, h1, h2⟩ := hf (o, t) (List.mem_cons_self ..)
  obtain ⟨v, h3, h4⟩ := h H enc w base spare held fuel _ x h1 h2
  have h3 : Rd w (fun b => b < w.heap.size) k ((cs.drop o).take (P.cellsOf t)) v := h3
  rw [List.take_of_length_le (by rw [List.length_drop, hl, hc]; omega)] at h3
  exact ⟨v, h3, h4⟩
theorem RdFs.cons {P : Program} {t o : Nat} {k c : Kd} {l : List (Nat × Nat)} {Wf : k.T → Prop} {Wc : c.T → Prop} (hc : P.cellsOf t = k.sz) (h : RdT P t k Wf) (hr : RdFs P l (o + k.sz) c Wc) : RdFs P ((o, t) :: l) o (.pair k c) (fun x => Wf x.1 ∧ Wc x.2) := by
  intro H enc w base spare held fuel cs hl hf
  obtain ⟨x, h1, h2⟩ := hf (o, t) (List.mem_cons_self ..)
  obtain ⟨v, h3, h4⟩ := h H enc w base spare held fuel _ x h1 h2
  obtain ⟨u, h5, h6⟩ := hr H enc w base spare held fuel cs (by rw [hl]; simp only [Kd.sz]; omega) (fun f hf' => hf f (List.mem_cons_of_mem _ hf'))
  refine ⟨(v, u), ⟨(cs.drop o).take k.sz, cs.drop (o + k.sz), ?_, ?_, h5⟩, h4, h6⟩
  · rw [← List.drop_drop, List.take_append_drop]
  · rw [← hc]; exact h3
theorem weights_each {H : Type} {P : Program} {n : Nat} : ∀ {ts : List TypeId} {l : List (DataW H)} {i : Nat} {t : TypeId} {y : DataW H}, ts[i]? = some t → l[i]? = some y → n ∈ y.weights P t → n ∈ DataW.weightsEach P ts l
  | [], _, i, t, y, h, _, _ => by cases h
  | _ :: _, [], i, t, y, _, h, _ => by cases h
  | u :: ts, d :: l, i, t, y, h1, h2, hn => by
    simp only [DataW.weightsEach, List.mem_append]
    cases i with
    | zero =>
      simp at h1 h2
      subst h1
      subst h2
      exact .inl hn
    | succ i => exact .inr (weights_each (i := i) (by simpa using h1) (by simpa using h2) hn)
theorem RdT.agg {P : Program} {t : TypeId} {fs : Array Field} {c : Kd} {l : List (Nat × Nat)} {Wf : c.T → Prop} (ht : P.underlying t = some (.struct fs)) (hl : fs.toList.map (fun f => (f.offset, f.type)) = l) (hc : P.cellsOf t = c.sz) (h : RdFs P l 0 c Wf) : RdT P t (.agg c) Wf := by
  intro H enc w base spare held fuel cs x hx hn
  obtain ⟨xs, n, rfl, rfl, hcl, hxl, hf⟩ := DataW.trod_struct ht hx
  obtain ⟨v, h1, h2⟩ := h H enc w base spare held n cs (by rw [hcl, hc, Nat.zero_add]) (fun f hfm => by
    rw [← hl] at hfm
    obtain ⟨fd, hfd, rfl⟩ := List.mem_map.1 hfm
    obtain ⟨i, hi, rfl⟩ := List.getElem_of_mem hfd
    have hi' : i < fs.size := by simpa using hi
    have h3 := hf i fs[i] (by simp [hi'])
    have hix : i < xs.length := by omega
    rw [List.getElem?_eq_getElem hix] at h3
    refine ⟨xs[i], by simpa using h3, fun m hm => hn m ?_⟩
    simp only [DataW.weights, ht]
    refine weights_each (i := i) (t := fs[i].type) (y := xs[i].1) (by simp [hi']) (by simp [hix]) ?_
    simpa using hm)
  exact ⟨v, h1, h2⟩

/-- plain data as an argument -/
theorem RdT.arg {P : Program} {t : TypeId} {k : Kd} {Wf : k.T → Prop} (h : RdT P t k Wf) (hk : k.isVal = true) {H : Type} {enc : TypeId × Value → H} {w : World} {base : Nat} {spare : Nat → Bool} {held : Bool} {v : Value} {d : DataW H} {p : List MemPlace}
    (hv : if k.isAgg then v = .agg v.cells else v.cells = #[v]) (ht : ∃ fuel, DataW.trod enc P w base spare held fuel t v.cells.toList = some (d, p)) (hn : ∀ n ∈ d.weights P t, n ≤ 140737488351232) : ∃ x : k.T, RdV w (fun b => b < w.heap.size) k v x ∧ Wf x := by
  obtain ⟨fuel, hf⟩ := ht
  obtain ⟨x, h1, h2⟩ := h H enc w base spare held fuel _ _ hf hn
  refine ⟨x, ⟨hk, v.cells.toList, ?_, h1⟩, h2⟩
  unfold valCells
  split at hv
  · rename_i q
    rw [if_pos q]; simpa using hv
  · rename_i q
    rw [if_neg q, hv]

end Go.Proofs.YtbliiipcjbmbiaaGreatDoor.Ev

namespace Go.Proofs.YtbliiipcjbmbiaaGreatDoor.Ev
open Go.RowKit
set_option linter.unusedVariables false
set_option linter.unusedSimpArgs false

variable {P : Program} {J : Inv}
theorem Below.ext {B : Base} {w' : World} (h : Below B.w0.heap.size B.w0 w') : Ext B w' := ⟨h.os, h.tape, h.output, h.size, fun b hb _ => h.block b hb⟩
theorem Ext.below {w w' : World} {F : Nat → Prop} (h : Ext ⟨w, fun _ => False, F⟩ w') : Below w.heap.size w w' := ⟨h.os, h.tape, h.output, h.size, fun b hb => h.block b hb (fun q => q)⟩

def newF (w w' : World) (F : Nat → Prop) (b : Nat) : Prop := F b ∨ (w.heap.size ≤ b ∧ b < w'.heap.size)
/-- a contract with one result, over plain data -/
theorem FnOK.given {g : Nat} {ps : List Pm} {r : Kd} {f : Nat → PT ps → Option r.T} (henter : ∃ fn, P.funcs[g]? = some fn ∧ fn.body.isSome = true ∧ (fn.name == "runtime.NumGoroutine") = false)
    (h : ∀ (k : Nat) (w : World) (F S : Nat → Prop) (x : PT ps) (y : r.T) (vals : List Value), J.I w → J.gz ≤ w.heap.size → (∀ b, F b → b < w.heap.size) → ArgsRep P J w F S ps x vals → f k x = some y →
      Calls P g vals.toArray w fun e w' => ∃ v, e = .returned v ∧ RdV w' (newF w w' F) r v y ∧ Below w.heap.size w w') : FnOK P J g ⟨ps, [.val r], f⟩ := by
  refine ⟨henter, fun k B vals x y hB hargs hnd hG hy => ?_⟩
  refine (h k B.w0 B.F0 B.S x y vals hB.inv hB.gz (fun b hb => (hB.f0 b hb).1) hargs hy).mono fun e w' ⟨v, h1, h2, h3⟩ => ?_
  refine ⟨[v], h1, ⟨v, rfl, RdV.mono (fun b hb => ⟨?_, rfl⟩) h2⟩, by simp [ownRs], by simp [ownRs], Below.ext h3⟩
  rcases hb with hb | hb
  · exact .inl hb
  · exact .inr ⟨.inl hb.1, hb.2, by simp [ownRs]⟩

/-- a row of strings in a block reads as a list of strings -/
theorem strs_read {w : World} {F : Nat → Prop} {b off cap : Nat} {l : List ByteArray} (hcap : l.length ≤ cap) (hF : F b) (hc : ∀ i (h : i < l.length), w.cell? ⟨b, off + i, none⟩ = some (.string l[i])) : RdV w F (.slice .str) (.slice (some ⟨b, off, none⟩) l.length cap) l := by
  refine ⟨rfl, [_], by simp [valCells, Kd.isAgg], some ⟨b, off, none⟩, cap, rfl, hcap, .inr ⟨⟨b, off, none⟩, rfl, hF, fun i hi => ⟨[.string l[i]], rfl, fun j hj => ?_, rfl⟩⟩⟩
  have : j = 0 := by simp only [Kd.sz] at hj; omega
  subst this
  rw [Addr.add_mid]
  simp [Kd.sz, hc i hi]
/-- what a slice of strings holds -/
theorem strs_cells {w : World} {F : Nat → Prop} {v : Value} {l : List ByteArray} (h : RdV w F (.slice .str) v l) : (l = [] ∧ ∃ A c, v = .slice A 0 c) ∨ ∃ b off c, v = .slice (some ⟨b, off, none⟩) l.length c ∧ l.length ≤ c ∧ F b ∧ ∀ i (hi : i < l.length), w.cell? ⟨b, off + i, none⟩ = some (.string l[i]) := by
  obtain ⟨_, vs, h1, A, c, h2, h3, h4⟩ := h
  subst h2
  have hv : v = .slice A l.length c := by
    unfold valCells at h1
    simpa [Kd.isAgg] using h1.symm
  subst hv
  rcases h4 with rfl | ⟨ad, rfl, h5, h6⟩
  · exact .inl ⟨rfl, A, c, rfl⟩
  · cases l with
    | nil => exact .inl ⟨rfl, _, c, rfl⟩
    | cons x l' =>
      right
      obtain ⟨b, off, s⟩ := ad
      cases s with
      | some s =>
        obtain ⟨cs, c1, c2, c3⟩ := h6 0 (by simp)
        have := c2 0 (by simp [Kd.sz])
        rw [List.getElem?_eq_getElem (show 0 < cs.length by rw [c1]; simp [Kd.sz])] at this
        simp [Addr.add, World.cell?] at this
        split at this <;> simp at this
      | none =>
        refine ⟨b, off, c, rfl, h3, h5, fun i hi => ?_⟩
        obtain ⟨cs, c1, c2, c3⟩ := h6 i hi
        have h7 := c2 0 (by simp [Kd.sz])
        have c3 : cs = [.string (x :: l')[i]] := c3
        rw [c3, Addr.add_mid] at h7
        simpa [Kd.sz] using h7
theorem ownsRow_strs {w w' : World} {F : Nat → Prop} {e : TypeId} {v : Value} {l : List ByteArray} (h : w'.ownsRow w.heap.size e 1 v l.length (l.map Value.string)) : RdV w' (newF w w' F) (.slice .str) v l := by
  obtain ⟨h1, ⟨rfl, h2⟩ | ⟨g, cap, cur, rfl, h3, h4, h5, h6, h7, h8⟩⟩ := h
  · obtain rfl : l = [] := List.eq_nil_of_length_eq_zero h2
    exact nil_reads _
  · have hg : g < w'.heap.size := by
      rcases Nat.lt_or_ge g w'.heap.size with q | q
      · exact q
      · rw [Array.getElem?_eq_none q] at h4; cases h4
    refine strs_read h5 (.inr ⟨h3, hg⟩) fun i hi => ?_
    rw [cell_of h4, Nat.zero_add]
    have : cur.toList[i]? = some (.string l[i]) := by
      have h9 : (cur.toList.take (l.length * 1))[i]? = (l.map Value.string)[i]? := by rw [h8]
      rw [List.getElem?_take, if_pos (by omega)] at h9
      rw [h9]; simp [hi]
    simpa using this

theorem arg_str {w : World} {F : Nat → Prop} {v : Value} {s : ByteArray} (h : RdV w F .str v s) : v = .string s := by
  obtain ⟨_, vs, h1, h2⟩ := h
  have h2 : vs = [.string s] := h2
  subst h2
  unfold valCells at h1
  simpa [Kd.isAgg] using h1.symm
theorem arg_int {w : World} {F : Nat → Prop} {v : Value} {j : IntKind} {n : Int} (h : RdV w F (.int j) v n) : v = .int j n := by
  obtain ⟨_, vs, h1, h2⟩ := h
  have h2 : vs = [.int j n] := h2
  subst h2
  unfold valCells at h1
  simpa [Kd.isAgg] using h1.symm

/-- the cell of a package variable holds a whole number -/
def cellInv (g : Nat) : Inv where
  I w := ∃ m : Int, w.cell? ⟨g, 0, none⟩ = some (.int .i64 m)
  gz := g + 1
  lasts w w' h hI := by
    obtain ⟨m, hm⟩ := hI
    refine ⟨m, ?_⟩
    have := h g (Nat.lt_succ_self g)
    unfold World.cell? at hm ⊢
    rw [this]; exact hm
theorem fnOK_split {g cell : Nat} (henter : ∃ fn, P.funcs[g]? = some fn ∧ fn.body.isSome = true ∧ (fn.name == "runtime.NumGoroutine") = false) {e : TypeId}
    (h : ∀ (s sep : ByteArray) (m : Int) (w : World), s.size < 4294967281 → w.cell? ⟨cell, 0, none⟩ = some (.int .i64 m) → 1 ≤ sep.size → Calls P g #[.string s, .string sep] w fun en w' =>
      en = .returned (.slice (some ⟨w.heap.size, 0, none⟩) (Lib.countB s sep + 1) (Lib.countB s sep + 1)) ∧ w' = w.alloc (.cells ((Lib.splitB sep 0 (Lib.countB s sep) s).map Value.string).toArray e)) :
    FnOK P (cellInv cell) g ⟨[.val .str, .val .str], [.val (.slice .str)], fun _ x => if x.1.size < 4294967281 ∧ 1 ≤ x.2.1.size then some (Lib.splitB x.2.1 0 (Lib.countB x.1 x.2.1) x.1) else none⟩ := by
  refine FnOK.given henter fun k w F S x y vals hI hgz hF hargs hy => ?_
  obtain ⟨v1, r1, rfl, a1, v2, r2, rfl, a2, hr⟩ := hargs
  have hr : r2 = [] := hr
  subst hr
  obtain rfl := arg_str a1
  obtain rfl := arg_str a2
  obtain ⟨m, hm⟩ := hI
  split at hy
  · rename_i hc
    cases hy
    refine (h x.1 x.2.1 m w hc.1 hm hc.2).mono fun en w' ⟨h1, h2⟩ => ?_
    subst h2
    obtain ⟨f1, f2, f3⟩ := alloc_facts w (.cells ((Lib.splitB x.2.1 0 (Lib.countB x.1 x.2.1) x.1).map Value.string).toArray e)
    have hl := Lib.splitB_all x.2.1 hc.2 0 (Lib.countB x.1 x.2.1) x.1 rfl
    refine ⟨_, h1, ?_, (Below.refl _ _).alloc (Nat.le_refl _) _⟩
    rw [← hl]
    refine strs_read (Nat.le_refl _) (.inr ⟨Nat.le_refl _, by rw [f1]; exact Nat.lt_succ_self _⟩) fun i hi => ?_
    rw [cell_of f2]
    simp [hi]
  · cases hy
theorem fnOK_contains {g cell : Nat} (henter : ∃ fn, P.funcs[g]? = some fn ∧ fn.body.isSome = true ∧ (fn.name == "runtime.NumGoroutine") = false)
    (h : ∀ (s sub : ByteArray) (m : Int) (w : World), s.size < 4294967281 → w.cell? ⟨cell, 0, none⟩ = some (.int .i64 m) → Calls P g #[.string s, .string sub] w fun en w' => en = .returned (.bool (Lib.contains s.data.toList sub.data.toList)) ∧ w' = w) :
    FnOK P (cellInv cell) g ⟨[.val .str, .val .str], [.val .bool], fun _ x => if x.1.size < 4294967281 then some (Lib.contains x.1.data.toList x.2.1.data.toList) else none⟩ := by
  refine FnOK.given henter fun k w F S x y vals hI hgz hF hargs hy => ?_
  obtain ⟨v1, r1, rfl, a1, v2, r2, rfl, a2, hr⟩ := hargs
  have hr : r2 = [] := hr
  subst hr
  obtain rfl := arg_str a1
  obtain rfl := arg_str a2
  obtain ⟨m, hm⟩ := hI
  split at hy
  · rename_i hc
    cases hy
    refine (h x.1 x.2.1 m w hc hm).mono fun en w' ⟨h1, h2⟩ => ?_
    subst h2
    exact ⟨_, h1, ⟨rfl, [_], by simp [valCells, Kd.isAgg], rfl⟩, Below.refl _ _⟩
  · cases hy
theorem fnOK_indexByte {g : Nat} (henter : ∃ fn, P.funcs[g]? = some fn ∧ fn.body.isSome = true ∧ (fn.name == "runtime.NumGoroutine") = false)
    (h : ∀ (s : ByteArray) (c : Int) (w : World), Calls P g #[.string s, .int .u8 c] w fun en w' => en = .returned (.int .i64 (Lib.indexByte s.data.toList c.toNat.toUInt8)) ∧ w' = w) :
    FnOK P J g ⟨[.val .str, .val (.int .u8)], [.val (.int .i64)], fun _ x => some (Lib.indexByte x.1.data.toList x.2.1.toNat.toUInt8)⟩ := by
  refine FnOK.given henter fun k w F S x y vals hI hgz hF hargs hy => ?_
  obtain ⟨v1, r1, rfl, a1, v2, r2, rfl, a2, hr⟩ := hargs
  have hr : r2 = [] := hr
  subst hr
  obtain rfl := arg_str a1
  obtain rfl := arg_int a2
  cases hy
  refine (h x.1 x.2.1 w).mono fun en w' ⟨h1, h2⟩ => ?_
  subst h2
  exact ⟨_, h1, ⟨rfl, [_], by simp [valCells, Kd.isAgg], rfl⟩, Below.refl _ _⟩
theorem fnOK_cloneS {g : Nat} (henter : ∃ fn, P.funcs[g]? = some fn ∧ fn.body.isSome = true ∧ (fn.name == "runtime.NumGoroutine") = false) {e : TypeId}
    (h0 : ∀ (n c : Nat) (w : World), Calls P g #[.slice none n c] w fun en w' => en = .returned (.slice none 0 0) ∧ w' = w)
    (hz : ∀ (a : Addr) (c : Nat) (w : World), Calls P g #[.slice (some a) 0 c] w fun en w' => ∃ v', en = .returned v' ∧ w'.ownsRow w.heap.size e 1 v' 0 [] ∧ v' ≠ .slice none 0 0 ∧ Below w.heap.size w w')
    (h1 : ∀ (b off n c : Nat) (zs : List ByteArray) (w : World), n ≤ zs.length → n * 16 ≤ 140737488355328 → (∀ j, j < zs.length → w.cell? ⟨b, off + j, none⟩ = some (.string (zs.getD j ByteArray.empty))) →
      Calls P g #[.slice (some ⟨b, off, none⟩) n c] w fun en w' => ∃ v', en = .returned v' ∧ w'.ownsRow w.heap.size e 1 v' n ((zs.take n).map Value.string) ∧ v' ≠ .slice none 0 0 ∧ Below w.heap.size w w') :
    FnOK P J g ⟨[.val (.slice .str)], [.val (.slice .str)], fun _ x => if x.1.length * 16 ≤ 140737488355328 then some x.1 else none⟩ := by
  refine FnOK.given henter fun k w F S x y vals hI hgz hF hargs hy => ?_
  obtain ⟨v1, r1, rfl, a1, hr⟩ := hargs
  have hr : r1 = [] := hr
  subst hr
  split at hy
  · rename_i hc
    cases hy
    rcases strs_cells a1 with ⟨q1, A, c, rfl⟩ | ⟨b, off, c, rfl, q2, q3, q4⟩
    · cases A with
      | none =>
        refine (h0 0 c w).mono fun en w' ⟨e1, e2⟩ => ?_
        subst e2
        exact ⟨_, e1, by rw [q1]; exact nil_reads _, Below.refl _ _⟩
      | some a =>
        refine (hz a c w).mono fun en w' ⟨v', e1, e2, _, e3⟩ => ⟨v', e1, ?_, e3⟩
        rw [q1]
        exact ownsRow_strs (l := []) e2
    · refine (h1 b off x.1.length c x.1 w (Nat.le_refl _) hc fun j hj => ?_).mono fun en w' ⟨v', e1, e2, _, e3⟩ => ⟨v', e1, ?_, e3⟩
      · rw [q4 j hj]; simp [hj]
      · rw [List.take_length] at e2
        exact ownsRow_strs e2
  · cases hy

/-- the law's own call -/
theorem law_end {g k : Nat} {ps : List Pm} {S : Nat → PT ps → Option Bool} (h : FnOK P J g ⟨ps, [.val .bool], S⟩) {w : World} {x : PT ps} {vals : List Value} (hI : J.I w) (hgz : J.gz ≤ w.heap.size) (hown : ownBs ps vals = [])
    (hargs : ArgsRep P J w (fun b => b < w.heap.size) (fun b => b < w.heap.size ∧ ¬ False) ps x vals) (hS : S k x = some true) : Calls P g vals.toArray w fun e w' => e = .returned (.bool true) ∧ Below w.heap.size w w' := by
  have := h.ok k ⟨w, fun _ => False, fun b => b < w.heap.size⟩ vals x true ⟨fun b hb => ⟨hb, fun q => q⟩, hI, hgz, fun _ _ q => q⟩ hargs (by rw [hown]; simp) (by rw [hown]; simp) hS
  refine this.mono fun e w' ⟨vs, h1, h2, _, _, h3⟩ => ?_
  obtain ⟨v, rfl, hv⟩ := h2
  refine ⟨?_, Ext.below h3⟩
  rw [h1]
  obtain ⟨_, us, u1, u2⟩ := (show RdV w' _ .bool v true from hv)
  have u2 : us = [.bool true] := u2
  subst u2
  unfold valCells at u1
  have : v = .bool true := by simpa [Kd.isAgg] using u1.symm
  rw [this]; rfl

/-- nothing is asked of the memory -/
def JT : Inv := ⟨fun _ => True, 0, fun _ _ _ _ => trivial⟩

end Go.Proofs.YtbliiipcjbmbiaaGreatDoor.Ev

namespace Go.Proofs.YtbliiipcjbmbiaaGreatDoor.Ev
open Go.RowKit
set_option linter.unusedVariables false
set_option linter.unusedSimpArgs false
variable {P : Program} {J : Inv} {Γ : Ctx} {B : Base} {C : LBase} {βs : List Value} {st : St} {a : Act} {w w' : World} {obs obs' : List Ob} {wr : Nat → Bool} {tv : TV}
def tvBelow (n : Nat) : TV → Bool
  | .arr L => Nat.blt L n
  | .map L => Nat.blt L n
  | .ptr L _ => Nat.blt L n
  | .fn _ caps => caps.all fun L => Nat.blt L n
  | .tup l => l.all (rvBelow n)
  | .val _ _ => true
  | .nil => true
  | .nilk _ => true
  | .cst _ => true
  | _ => false
def yclean (n : Nat) (p : TV × List Ob) : TV × List Ob := match tvBelow n p.1 && (Nat.ble n p.2.length && boxesBelow n (p.2.take n)) with
  | true => (p.1, p.2.take n)
  | false => p
theorem Behind.clean (h : Rep' P J B βs obs w) {n : Nat} (c2 : obs.length ≤ n) {tv0 : TV} {ob0 : List Ob} {v : Value} (hb : Behind P J B βs obs wr w tv0 ob0 v w') : Behind P J B βs obs wr w (yclean n (tv0, ob0)).1 (yclean n (tv0, ob0)).2 v w' := by
  unfold yclean
  split
  · rename_i hck
    simp only [Bool.and_eq_true] at hck
    obtain ⟨c0, c1, c3⟩ := hck
    have c1 : n ≤ ob0.length := Nat.le_of_ble_eq_true c1
    obtain ⟨βs', hs, ht⟩ := hb
    show Behind P J B βs obs wr w tv0 (ob0.take n) v w'
    have hs2 : Step B βs obs wr w βs' ob0 w' := hs
    have h' := hs2.rep' h
    have hlen : βs'.length = ob0.length := hs2.len
    have hbl : βs.length ≤ n := by rw [h.obs.len]; exact c2
    have hb1 : ∀ M, M < n → bv (βs'.take n) M = bv βs' M := fun M hM => by
      unfold bv
      simp only [List.getD_eq_getElem?_getD]
      rw [List.getElem?_take_of_lt hM]
    have ho1 : ∀ M, M < n → getOb (ob0.take n) M = getOb ob0 M := fun M hM => by
      unfold getOb
      simp only [List.getD_eq_getElem?_getD]
      rw [List.getElem?_take_of_lt hM]
    have hl1 : (βs'.take n).length = n := by rw [List.length_take]; omega
    have hown : ∀ b, Own (βs'.take n) (ob0.take n) b → Own βs' ob0 b := by
      rintro b ⟨M, hM, m1, m2⟩
      rw [hl1] at hM
      rw [ho1 M hM] at m1
      rw [hb1 M hM] at m2
      exact ⟨M, by omega, m1, m2⟩
    have hF : ∀ b, Fz B βs' ob0 w' b → Fz B (βs'.take n) (ob0.take n) w' b := fun b hb => by
      rcases hb with hb | hb
      · exact .inl hb
      · exact .inr ⟨hb.1, hb.2.1, fun q => hb.2.2 (hown b q)⟩
    refine ⟨βs'.take n, ⟨hs2.os, hs2.tape, hs2.output, hs2.size, hs2.block, by rw [hl1]; exact hbl, fun M hM => (hb1 M (by omega)).trans (hs2.bext M hM), ?_, fun b hb => hs2.own b (hown b hb), fun M M' b hM hM' q1 q2 q3 q4 => ?_, fun M hM hw => (ho1 M (by omega)).trans (hs2.lock M hM hw), fun M hM => ?_⟩, ?_⟩
    · rw [hl1]
      show n = (ob0.take n).length
      rw [List.length_take]; omega
    · rw [hl1] at hM hM'
      have q1 : (getOb (ob0.take n) M).live = true := q1
      have q2 : (getOb (ob0.take n) M').live = true := q2
      rw [ho1 M hM] at q1; rw [ho1 M' hM'] at q2
      rw [hb1 M hM] at q3; rw [hb1 M' hM'] at q4
      exact hs2.inj M M' b (by omega) (by omega) q1 q2 q3 q4
    · rw [hl1] at hM
      show ObRep w' (Fz B (βs'.take n) (ob0.take n) w') (βs'.take n) (bv (βs'.take n) M) (getOb (ob0.take n) M)
      have hr := hs2.rep M (by omega)
      have hr : ObRep w' (Fz B βs' ob0 w') βs' (bv βs' M) (getOb ob0 M) := hr
      rw [ho1 M hM, hb1 M hM]
      cases hob : getOb ob0 M with
      | box cs =>
        rw [hob] at hr
        obtain ⟨b, c, t, fr, r1, r2, r3, r4, r5⟩ := hr
        refine ⟨b, c, t, fr, r1, r2, r3, r4, fun i hi => ⟨(r5 i hi).1, ?_⟩⟩
        have hbelow : rvBelow n cs[i] = true := boxesBelow_get c3 M cs (by
          show (ob0.take n)[M]? = _
          rw [List.getElem?_take_of_lt hM]
          unfold getOb at hob
          rw [List.getD_eq_getElem?_getD, List.getElem?_eq_getElem (by omega)] at hob
          rw [List.getElem?_eq_getElem (by omega)]
          exact congrArg some hob) _ (List.getElem_mem hi)
        have q := (r5 i hi).2
        generalize cs[i] = rv at q hbelow
        cases rv with
        | val k x => exact RdV.mono (fun b hb => ⟨hF b hb, rfl⟩) q
        | nilk e => exact q
        | arr N =>
          have hN : N < n := by simpa [rvBelow, Nat.blt_eq] using hbelow
          exact ⟨by rw [hl1]; exact hN, q.2.trans (hb1 N hN).symm⟩
        | map N =>
          have hN : N < n := by simpa [rvBelow, Nat.blt_eq] using hbelow
          exact ⟨by rw [hl1]; exact hN, q.2.trans (hb1 N hN).symm⟩
        | ptr N off =>
          have hN : N < n := by simpa [rvBelow, Nat.blt_eq] using hbelow
          obtain ⟨q1, b, q2, q3⟩ := q
          exact ⟨by rw [hl1]; exact hN, b, by rw [hb1 N hN]; exact q2, q3⟩
        | fn g caps =>
          have hN : ∀ N ∈ caps, N < n := by simpa [rvBelow, Nat.blt_eq] using hbelow
          refine ⟨fun N hm => ?_, ?_⟩
          · obtain ⟨q1, b, q2⟩ := q.1 N hm
            exact ⟨by rw [hl1]; exact hN N hm, b, by rw [hb1 N (hN N hm)]; exact q2⟩
          · rw [q.2, List.map_congr_left fun N hm => (hb1 N (hN N hm)).symm]
      | dead => trivial
      | arr e' l' =>
        rw [hob] at hr
        rcases hr with hr | ⟨b, off, cap, c, t, fr, r1, r2, r3, r4, r5, r6⟩
        · exact .inl hr
        · refine .inr ⟨b, off, cap, c, t, fr, r1, r2, r3, r4, r5, fun i hi => ?_⟩
          obtain ⟨cs, e1, e2, e3⟩ := r6 i hi
          exact ⟨cs, e1, e2, Rd.mono (fun b hb => ⟨hF b hb, rfl⟩) e3⟩
      | frz e' l' => rw [hob] at hr; exact RdV.mono (fun b hb => ⟨hF b hb, rfl⟩) hr
      | map kk kv m =>
        rw [hob] at hr
        obtain ⟨r, r1, r2⟩ := hr
        exact ⟨r, r1, r2.mono (fun b hb => ⟨hF b hb, rfl⟩) rfl⟩
      | fmap kk kv m => rw [hob] at hr; exact RdV.mono (fun b hb => ⟨hF b hb, rfl⟩) hr
      | iter kk kv m left cur =>
        rw [hob] at hr
        obtain ⟨b, r1, r2⟩ := hr
        exact ⟨b, r1, r2.mono (fun b hb => ⟨hF b hb, rfl⟩) rfl⟩
    · have hRV : ∀ (r : RV) (u : Value), rvBelow n r = true → RVRep w' (Fz B βs' ob0 w') βs' r u → RVRep w' (Fz B (βs'.take n) (ob0.take n) w') (βs'.take n) r u := by
        intro rv u hbelow q
        cases rv with
        | val k x => exact RdV.mono (fun b hb => ⟨hF b hb, rfl⟩) q
        | nilk e => exact q
        | arr N =>
          have hN : N < n := by simpa [rvBelow, Nat.blt_eq] using hbelow
          exact ⟨by rw [hl1]; exact hN, q.2.trans (hb1 N hN).symm⟩
        | map N =>
          have hN : N < n := by simpa [rvBelow, Nat.blt_eq] using hbelow
          exact ⟨by rw [hl1]; exact hN, q.2.trans (hb1 N hN).symm⟩
        | ptr N off =>
          have hN : N < n := by simpa [rvBelow, Nat.blt_eq] using hbelow
          obtain ⟨q1, b, q2, q3⟩ := q
          exact ⟨by rw [hl1]; exact hN, b, by rw [hb1 N hN]; exact q2, q3⟩
        | fn g caps =>
          have hN : ∀ N ∈ caps, N < n := by simpa [rvBelow, Nat.blt_eq] using hbelow
          refine ⟨fun N hm => ?_, ?_⟩
          · obtain ⟨q1, b, q2⟩ := q.1 N hm
            exact ⟨by rw [hl1]; exact hN N hm, b, by rw [hb1 N (hN N hm)]; exact q2⟩
          · rw [q.2, List.map_congr_left fun N hm => (hb1 N (hN N hm)).symm]
      cases tv0 with
      | val k x => exact RdV.mono (fun b hb => ⟨hF b hb, rfl⟩) ht
      | nil => exact ht
      | nilk e => exact ht
      | cst vs => exact ht
      | arr N => exact hRV (.arr N) v c0 ht
      | map N => exact hRV (.map N) v c0 ht
      | ptr N off => exact hRV (.ptr N off) v c0 ht
      | fn g caps => exact hRV (.fn g caps) v c0 ht
      | tup l =>
        obtain ⟨vs, z1, z2, z3⟩ := ht
        exact ⟨vs, z1, z2, fun i hi => hRV _ _ (List.all_eq_true.1 c0 _ (List.getElem_mem hi)) (z3 i hi)⟩
      | _ => cases c0
  · exact hb
end Go.Proofs.YtbliiipcjbmbiaaGreatDoor.Ev

namespace Go.Proofs.YtbliiipcjbmbiaaGreatDoor.Ev
open Go.RowKit
set_option linter.unusedVariables false
def lEq {α : Type} (f : α → α → Bool) : List α → List α → Bool
  | [], [] => true
  | a :: r, b :: s => f a b && lEq f r s
  | _, _ => false
theorem lEq_ok {α : Type} {f : α → α → Bool} (h : ∀ a b, f a b = true → a = b) : ∀ {l m : List α}, lEq f l m = true → l = m
  | [], [], _ => rfl
  | a :: r, b :: s, q => by
    simp only [lEq, Bool.and_eq_true] at q
    rw [h a b q.1, lEq_ok h q.2]
  | [], _ :: _, q => by cases q
  | _ :: _, [], q => by cases q
/-- equality of data -/
def dEq : (k : Kd) → k.T → k.T → Bool
  | .int _, a, b => ieq a b
  | .bool, a, b => beq2 a b
  | .str, a, b => seq a b
  | .slice e, a, b => lEq (dEq e) a b
  | .map kk kv, a, b => lEq (fun p q => dEq kk p.1 q.1 && dEq kv p.2 q.2) a b
  | .pair p q, a, b => dEq p a.1 b.1 && dEq q a.2 b.2
  | .agg c, a, b => dEq c a b
  | .unit, _, _ => true
  | .oslice _, a, b => Nat.beq a b
  | .optr, a, b => beq2 a b
  | .ofn, a, b => beq2 a b
  | .iter _ _ _, _, _ => false
theorem beq2_ok {a b : Bool} (h : beq2 a b = true) : a = b := by
  unfold beq2 at h
  exact eq_of_beq h
theorem dEq_ok : ∀ (k : Kd) (a b : k.T), dEq k a b = true → a = b
  | .int _, a, b, h => by
    have h : ieq a b = true := h
    unfold ieq at h
    simpa using h
  | .bool, a, b, h => beq2_ok h
  | .str, a, b, h => by
    have h : seq a b = true := h
    unfold seq at h
    have e := eq_of_beq h
    rw [ByteArray.toList_eq, ByteArray.toList_eq] at e
    obtain ⟨⟨x⟩⟩ := a
    obtain ⟨⟨y⟩⟩ := b
    simpa using e
  | .slice e, a, b, h => lEq_ok (fun a b => dEq_ok e a b) h
  | .map kk kv, a, b, h => lEq_ok (fun p q z => by
    simp only [Bool.and_eq_true] at z
    exact Prod.ext (dEq_ok kk _ _ z.1) (dEq_ok kv _ _ z.2)) h
  | .pair p q, a, b, h => by
    have h : (dEq p a.1 b.1 && dEq q a.2 b.2) = true := h
    simp only [Bool.and_eq_true] at h
    exact Prod.ext (dEq_ok p _ _ h.1) (dEq_ok q _ _ h.2)
  | .agg c, a, b, h => dEq_ok c a b h
  | .unit, _, _, _ => rfl
  | .oslice _, a, b, h => Nat.eq_of_beq_eq_true h
  | .optr, a, b, h => beq2_ok h
  | .ofn, a, b, h => beq2_ok h
  | .iter _ _ _, _, _, h => by cases h
def kEq (k k' : Kd) : Bool := (Kd.eq? k k').isSome
theorem kEq_ok {k k' : Kd} (h : kEq k k' = true) : k = k' := by
  unfold kEq at h
  cases q : Kd.eq? k k' with
  | none => rw [q] at h; cases h
  | some e => exact e.down
def vEq (k k' : Kd) (x : k.T) (y : k'.T) : Bool := match Kd.cast k k' x with
  | some z => dEq k' z y
  | none => false
theorem vEq_ok {k k' : Kd} {x : k.T} {y : k'.T} (h : vEq k k' x y = true) : ∃ e : k = k', e ▸ x = y := by
  unfold vEq at h
  split at h
  · rename_i z hz
    obtain ⟨e, h1⟩ := Kd.cast_some hz
    exact ⟨e, h1.trans (dEq_ok _ _ _ h)⟩
  · cases h
def RV.eqb : RV → RV → Bool
  | .val k x, .val k' y => vEq k k' x y
  | .nilk e, .nilk e' => kEq e e'
  | .arr L, .arr M => Nat.beq L M
  | .map L, .map M => Nat.beq L M
  | .ptr L a, .ptr M b => Nat.beq L M && Nat.beq a b
  | .fn g l, .fn g' l' => Nat.beq g g' && lEq Nat.beq l l'
  | _, _ => false
theorem RV.eqb_ok {a b : RV} (h : a.eqb b = true) : a = b := by
  cases a <;> cases b <;> simp only [RV.eqb] at h <;> try cases h
  case val.val k x k' y =>
    obtain ⟨rfl, rfl⟩ := vEq_ok h
    rfl
  case nilk.nilk e e' => rw [kEq_ok h]
  case arr.arr L M => rw [Nat.eq_of_beq_eq_true h]
  case map.map L M => rw [Nat.eq_of_beq_eq_true h]
  case ptr.ptr L x M y =>
    simp only [Bool.and_eq_true] at h
    rw [Nat.eq_of_beq_eq_true h.1, Nat.eq_of_beq_eq_true h.2]
  case fn.fn g l g' l' =>
    simp only [Bool.and_eq_true] at h
    rw [Nat.eq_of_beq_eq_true h.1, lEq_ok (fun a b q => Nat.eq_of_beq_eq_true q) h.2]
def TV.eqb : TV → TV → Bool
  | .dead, .dead => true
  | .skipped, .skipped => true
  | .nil, .nil => true
  | .nilk e, .nilk e' => kEq e e'
  | .val k x, .val k' y => vEq k k' x y
  | .arr L, .arr M => Nat.beq L M
  | .map L, .map M => Nat.beq L M
  | .ptr L a, .ptr M b => Nat.beq L M && Nat.beq a b
  | .fn g c, .fn g' c' => Nat.beq g g' && lEq Nat.beq c c'
  | .tup l, .tup m => lEq RV.eqb l m
  | _, _ => false
theorem TV.eqb_ok {a b : TV} (h : a.eqb b = true) : a = b := by
  cases a <;> cases b <;> simp only [TV.eqb] at h <;> try cases h
  case dead.dead => rfl
  case skipped.skipped => rfl
  case nil.nil => rfl
  case nilk.nilk e e' => rw [kEq_ok h]
  case val.val k x k' y =>
    obtain ⟨rfl, rfl⟩ := vEq_ok h
    rfl
  case arr.arr L M => rw [Nat.eq_of_beq_eq_true h]
  case map.map L M => rw [Nat.eq_of_beq_eq_true h]
  case ptr.ptr L x M y =>
    simp only [Bool.and_eq_true] at h
    rw [Nat.eq_of_beq_eq_true h.1, Nat.eq_of_beq_eq_true h.2]
  case fn.fn g c g' c' =>
    simp only [Bool.and_eq_true] at h
    rw [Nat.eq_of_beq_eq_true h.1, lEq_ok (fun a b q => Nat.eq_of_beq_eq_true q) h.2]
  case tup.tup l m => rw [lEq_ok (fun a b q => RV.eqb_ok q) h]
def Ob.eqb : Ob → Ob → Bool
  | .dead, .dead => true
  | .box l, .box m => lEq RV.eqb l m
  | .arr e l, .arr e' m => vEq (.slice e) (.slice e') l m
  | .frz e l, .frz e' m => vEq (.slice e) (.slice e') l m
  | .map a b l, .map a' b' m => vEq (.map a b) (.map a' b') l m
  | .fmap a b l, .fmap a' b' m => vEq (.map a b) (.map a' b') l m
  | .iter a b l f c, .iter a' b' m f' c' => vEq (.map a b) (.map a' b') l m && (lEq Nat.beq f f' && (match c, c' with
    | none, none => true
    | some x, some y => Nat.beq x y
    | _, _ => false))
  | _, _ => false
theorem Ob.eqb_ok {a b : Ob} (h : a.eqb b = true) : a = b := by
  cases a <;> cases b <;> simp only [Ob.eqb] at h <;> try cases h
  case dead.dead => rfl
  case box.box l m => rw [lEq_ok (fun a b q => RV.eqb_ok q) h]
  case iter.iter a b l f c a' b' m f' c' =>
    simp only [Bool.and_eq_true] at h
    obtain ⟨h1, h2, h3⟩ := h
    obtain ⟨e, q⟩ := vEq_ok h1
    cases e
    cases q
    rw [lEq_ok (fun a b q => Nat.eq_of_beq_eq_true q) h2]
    cases c <;> cases c' <;> simp only at h3 <;> try cases h3
    · rfl
    · rw [Nat.eq_of_beq_eq_true h3]
  all_goals
    obtain ⟨e, q⟩ := vEq_ok h
    cases e
    cases q
    rfl
def yEq (a b : TV × List Ob) : Bool := a.1.eqb b.1 && lEq Ob.eqb a.2 b.2
theorem yEq_ok (a b : TV × List Ob) (h : yEq a b = true) : a = b := by
  unfold yEq at h
  simp only [Bool.and_eq_true] at h
  exact Prod.ext (TV.eqb_ok h.1) (lEq_ok (fun a b q => Ob.eqb_ok q) h.2)
end Go.Proofs.YtbliiipcjbmbiaaGreatDoor.Ev

namespace Go.Proofs.YtbliiipcjbmbiaaGreatDoor.Ev
open Go.RowKit
set_option linter.unusedVariables false
set_option linter.unusedSimpArgs false

def ystart (n : Nat) (tvs : List TV) (wr : Nat → Bool) (obs : List Ob) : St := ⟨n, number 0 tvs, obs, obs.length, (List.range obs.length).filter wr⟩
/-- results that do not lean on what stands through the call -/
def TV.out : TV → Bool
  | .rop _ _ => false
  | .fnv _ _ _ => false
  | _ => true
def tvRV : TV → Option RV
  | .val k x => some (.val k x)
  | .nilk e => some (.nilk e)
  | .arr L => some (.arr L)
  | .map L => some (.map L)
  | .ptr L off => some (.ptr L off)
  | .fn g caps => some (.fn g caps)
  | _ => none
def tvRVs : List TV → Option (List RV)
  | [] => some []
  | tv :: r => match tvRV tv, tvRVs r with
    | some v, some vs => some (v :: vs)
    | _, _ => none
def yout : List TV → Option TV
  | [] => some (.tup [])
  | [tv] => match tv.out with
    | true => some tv
    | false => none
  | l => match tvRVs l with
    | some r => some (.tup r)
    | none => none
def yfinish (Γ : Ctx) (results : List ResultVar) (st : St) : Option (TV × List Ob) := match resTVs Γ results st with
  | some (tvs, st1) => match yout tvs with
    | some tv => some (yclean st.lk (tv, st1.obs))
    | none => none
  | none => none
def yrun (Γ : Ctx) (k n : Nat) (results : List ResultVar) (c : Code) (tvs : List TV) (wr : Nat → Bool) (obs : List Ob) : Option (TV × List Ob) :=
  match Nat.ble tvs.length n with
  | true => (ystart n tvs wr obs).ff fun st => exec Γ k c ⟨fun _ _ => none, yfinish Γ results, ⟨true, yEq, yEq_ok⟩⟩ (yfinish Γ results) st
  | false => none

variable {P : Program} {J : Inv} {Γ : Ctx} {B : Base} {βs βs' : List Value} {w w' : World} {obs obs' : List Ob} {wr : Nat → Bool}

theorem ystart_low {n : Nat} {tvs : List TV} {L : Nat} (hL : L < obs.length) : (ystart n tvs wr obs).wr L = wr L := by
  unfold ystart St.wr Ev.wr
  have h1 : Nat.ble obs.length L = false := by
    cases h : Nat.ble obs.length L
    · rfl
    · exact absurd (Nat.le_of_ble_eq_true h) (by omega)
  simp only [h1, Bool.false_or]
  cases hw : wr L with
  | true =>
    refine List.any_eq_true.2 ⟨L, List.mem_filter.2 ⟨List.mem_range.2 hL, hw⟩, ?_⟩
    simp
  | false =>
    refine List.any_eq_false.2 fun x hx => ?_
    obtain ⟨_, h2⟩ := List.mem_filter.1 hx
    intro q
    have : L = x := by simpa using q
    rw [← this, hw] at h2; cases h2
/-- the base of a callee in place -/
def inBase (B : Base) (βs : List Value) (obs : List Ob) (w : World) : Base := ⟨w, Own βs obs, Fz B βs obs w⟩
theorem inBase_ok (hB : B.Ok J) (h : Rep' P J B βs obs w) (hI : J.I w) : (inBase B βs obs w).Ok J := by
  have hg := hB.gz
  have hn := h.base
  refine ⟨fun b hb => h.notOwn hb, hI, Nat.le_trans hg hn, fun b hb ho => ?_⟩
  rcases (h.own b ho).1 with q | q
  · omega
  · exact hB.gzG b hb q
theorem inBase_S {b : Nat} (h : Rep' P J B βs obs w) (hb : B.S b) : (inBase B βs obs w).S b := by
  have hn := h.base
  refine ⟨Nat.lt_of_lt_of_le hb.1 hn, fun ho => ?_⟩
  rcases (h.own b ho).1 with q | q
  · exact absurd hb.1 (by omega)
  · exact hb.2 q
theorem inBase_F (h : Rep' P J B βs obs w) {b : Nat} (hb : Fz B βs obs w b) : Fz (inBase B βs obs w) βs' obs' w' b := .inl hb
theorem inBase_back (h : Rep' P J B βs obs w) (hown : ∀ b, Own βs' obs' b → (Own βs obs b ∨ w.heap.size ≤ b) ∧ b < w'.heap.size) (hs : w.heap.size ≤ w'.heap.size) {b : Nat} (hb : Fz (inBase B βs obs w) βs' obs' w' b) : Fz B βs' obs' w' b := by
  have hn := h.base
  have no : ∀ b, Fz B βs obs w b → ¬ Own βs' obs' b := fun b hb ho => by
    obtain ⟨h1, h2⟩ := h.notOwn hb
    rcases (hown b ho).1 with q | q
    · exact h2 q
    · omega
  rcases hb with hb | ⟨hb, h2, h3⟩
  · rcases hb with hb' | ⟨q1, q2, q3⟩
    · exact .inl hb'
    · exact .inr ⟨q1, Nat.lt_of_lt_of_le q2 hs, no b (.inr ⟨q1, q2, q3⟩)⟩
  · refine .inr ⟨?_, h2, h3⟩
    rcases hb with q | q
    · exact .inl (Nat.le_trans hn q)
    · exact (h.own b q).1
def inLB (B : Base) (βs : List Value) (obs : List Ob) (w : World) : LBase := { kept := fun _ => False, V := fun _ => undef, Fb := Fz B βs obs w, wb := w, βb := βs, ob := obs }
theorem TVs.get : ∀ {tvs : List TV} {vals : List Value}, TVs P J B βs obs w tvs vals → tvs.length = vals.length ∧ ∀ i tv, tvs[i]? = some tv → TVRep P J w (Fz B βs obs w) B.S βs tv (vals.getD i undef)
  | [], vals, h => by
    rw [show vals = [] from h]
    exact ⟨rfl, fun i tv q => by simp at q⟩
  | tv :: tvs, vals, h => by
    obtain ⟨v, r, rfl, h1, h2⟩ := h
    obtain ⟨g1, g2⟩ := TVs.get h2
    refine ⟨by simp [g1], fun i t q => ?_⟩
    cases i with
    | zero => simp at q; subst q; exact h1
    | succ i => simpa using g2 i t (by simpa using q)
theorem ystart_rep (hB : B.Ok J) (h : Rep' P J B βs obs w) {tvs : List TV} {vals : List Value} {n : Nat} (hn : tvs.length ≤ n) (ht : TVs P J B βs obs w tvs vals) :
    Rep P J (inBase B βs obs w) (inLB B βs obs w) βs (ystart n tvs wr obs) (actOf vals n) w := by
  obtain ⟨hl, hg⟩ := TVs.get ht
  have hF : ∀ b, Fz B βs obs w b → Fz (inBase B βs obs w) βs obs w b ∧ w.heap[b]? = w.heap[b]? := fun b hb => ⟨.inl hb, rfl⟩
  refine ⟨⟨rfl, rfl, rfl, Nat.le_refl _, fun _ _ _ => rfl⟩, fun b hb => ⟨.inr hb, (h.own b hb).2⟩, h.inj, h.obs.len, fun L hL => ?_, fun s => ?_, ?_, rfl, fun s hs => hs.elim, hF, Nat.le_refl _, Nat.le_refl _, fun _ _ => rfl, fun _ _ _ => rfl⟩
  · exact (h.obs.rep L hL).mono hF (Nat.le_refl _) (fun _ _ => rfl) (fun _ _ _ => rfl)
  · show TVRep P J w _ _ _ (tget (number 0 tvs) s) _
    rw [tget_number, if_pos (Nat.zero_le _), Nat.sub_zero]
    rcases Nat.lt_or_ge s tvs.length with q | q
    · have q1 : tvs[s]? = some tvs[s] := List.getElem?_eq_getElem q
      have := hg s _ q1
      have e : (actOf vals n).tmps.getD s undef = vals.getD s undef := by
        have hs : s < vals.length := by omega
        simp [actOf, hs, Array.getElem?_append]
      rw [e]
      have e2 : tvs.getD s TV.dead = tvs[s] := by simp [q]
      rw [e2]
      exact TVRep.monoS (fun b hb => inBase_S h hb) (this.mono (fun _ _ => rfl) (Nat.le_refl _) hF (Nat.le_refl _) (fun _ _ => rfl))
    · have e2 : tvs.getD s TV.dead = .dead := by simp [List.getElem?_eq_none q]
      rw [e2]; trivial
  · show (vals.toArray ++ Array.replicate (n - vals.toArray.size) undef).size = n
    simp; omega

theorem TVRep.out {F S S' : Nat → Prop} {tv : TV} {v : Value} (ho : tv.out = true) (h : TVRep P J w F S βs tv v) : TVRep P J w F S' βs tv v := by
  cases tv with
  | rop k x => cases ho
  | fnv a r f => cases ho
  | _ => exact h
theorem tvRV_rep {F S : Nat → Prop} {tv : TV} {v : Value} {r : RV} (h : TVRep P J w F S βs tv v) (hr : tvRV tv = some r) : RVRep w F βs r v := by
  cases tv <;> simp only [tvRV] at hr <;> cases hr <;> exact h
theorem tvRVs_rep : ∀ {tvs : List TV} {vs : List Value} {l : List RV}, TVs P J B βs obs w tvs vs → tvRVs tvs = some l → vs.length = l.length ∧ ∀ (i : Nat) (h : i < l.length), RVRep w (Fz B βs obs w) βs l[i] (vs.getD i undef)
  | [], vs, l, h, hl => by
    rw [show vs = [] from h]
    simp only [tvRVs] at hl
    cases hl
    exact ⟨rfl, fun i h => by cases h⟩
  | tv :: tvs, vs, l, h, hl => by
    obtain ⟨v, r, rfl, h1, h2⟩ := h
    simp only [tvRVs] at hl
    split at hl
    · rename_i a b ha hb
      cases hl
      obtain ⟨g1, g2⟩ := tvRVs_rep h2 hb
      refine ⟨by simp [g1], fun i hi => ?_⟩
      cases i with
      | zero => exact tvRV_rep h1 ha
      | succ i => simpa using g2 i (by simpa using hi)
    · cases hl
theorem yout_rep {tvs : List TV} {vs : List Value} {tv : TV} (h : TVs P J B βs obs w tvs vs) (ho : yout tvs = some tv) : TVRep P J w (Fz B βs obs w) B.S βs tv (tupV vs) ∧ tv.out = true := by
  match tvs, h, ho with
  | [], h, ho =>
    rw [show vs = [] from h]
    simp only [yout] at ho
    cases ho
    exact ⟨⟨#[], rfl, rfl, fun i h => by cases h⟩, rfl⟩
  | [t], h, ho =>
    obtain ⟨v, r, rfl, h1, h2⟩ := h
    have h2 : r = [] := h2
    subst h2
    simp only [yout] at ho
    split at ho
    · rename_i q
      cases ho
      exact ⟨h1, q⟩
    · cases ho
  | t :: u :: l, h, ho =>
    simp only [yout] at ho
    split at ho
    · rename_i r hr
      cases ho
      obtain ⟨g1, g2⟩ := tvRVs_rep h hr
      obtain ⟨v, r1, rfl, _, h2⟩ := h
      obtain ⟨v2, r2, rfl, _, _⟩ := h2
      refine ⟨⟨(v :: v2 :: r2).toArray, rfl, by simpa using g1, fun i hi => ?_⟩, rfl⟩
      have := g2 i hi
      simpa [Array.getD_eq_getD_getElem?] using this
    · cases ho
/-- ████ a function of the program, run in place ████ -/
theorem YOK_of (hΓ : CtxOK P J Γ) {g : Nat} {fn : Func} {c : Code} (hf : P.funcs[g]? = some fn) (hb : fn.body = some c) (hnm : (fn.name == "runtime.NumGoroutine") = false) :
    YOK P J g ⟨fun k tvs wr obs => yrun Γ k fn.ntmps fn.results.toList c tvs wr obs⟩ := by
  refine ⟨⟨fn, hf, by rw [hb]; rfl, hnm⟩, fun k B βs obs wr w tvs vals tv obs' hB h hI ht he => ?_⟩
  have he : yrun Γ k fn.ntmps fn.results.toList c tvs wr obs = some (tv, obs') := he
  unfold yrun at he
  split at he
  case h_2 => cases he
  rw [St.ff_eq] at he
  rename_i hn
  have hn := Nat.le_of_ble_eq_true hn
  refine calls_of_wp hf hb ?_
  have hB1 := inBase_ok hB h hI
  have h0 := ystart_rep (wr := wr) hB h hn ht
  have fin : ∀ (βs' : List Value) (st : St) (a : Act) (w' : World), Rep P J (inBase B βs obs w) (inLB B βs obs w) βs' st a w' → SameLocks (ystart fn.ntmps tvs wr obs) st → yfinish Γ fn.results.toList st = some (tv, obs') →
      a.defers = [] ∧ ∃ v, (results fn a.tmps).run P w' = .ok v w' ∧ ∃ v', Ending.returned v = .returned v' ∧ Behind P J B βs obs wr w tv obs' v' w' := by
    intro βs' st a w' h1 hlk he1
    refine ⟨h1.defers, ?_⟩
    unfold yfinish at he1
    split at he1
    case h_2 => cases he1
    rename_i tvs1 st1 hr
    split at he1
    case h_2 => cases he1
    rename_i tv1 ho
    have he1 : yclean st.lk (tv1, st1.obs) = (tv, obs') := Option.some.inj he1
    obtain ⟨vs, g1, g2, g3, g4⟩ := resTVs_ok hΓ (h1.toRep' hB1) h1.tmps hr
    have s1 : Step (inBase B βs obs w) βs obs st.wr w βs' st.obs w' := ⟨h1.ext.os, h1.ext.tape, h1.ext.output, h1.ext.size, fun b hb ho => h1.ext.block b hb ho, h1.blen, h1.bext, h1.len, fun b hb => ⟨(h1.own b hb).1.symm, (h1.own b hb).2⟩, h1.inj, fun L hL hw => h1.lock L hL hw, h1.obs⟩
    have s2 := s1.trans g2
    obtain ⟨y1, y2⟩ := yout_rep g3 ho
    have hF : ∀ b, Fz (inBase B βs obs w) βs' st1.obs w' b → Fz B βs' st1.obs w' b ∧ w'.heap[b]? = w'.heap[b]? := fun b hb => ⟨inBase_back h s2.own s2.size hb, rfl⟩
    have hbe : Behind P J B βs obs wr w tv1 st1.obs (tupV vs) w' := by
     refine ⟨βs', ⟨s2.os, s2.tape, s2.output, s2.size, s2.block, s2.blen, s2.bext, s2.len, s2.own, s2.inj, fun L hL hw => s2.lock L hL ?_, fun L hL => (s2.rep L hL).mono hF (Nat.le_refl _) (fun _ _ => rfl) (fun _ _ _ => rfl)⟩, ?_⟩
     · rw [← ystart_low (n := fn.ntmps) (tvs := tvs) (wr := wr) (h.obs.len ▸ hL)] at hw
       unfold St.wr at hw ⊢
       rw [hlk.1, hlk.2.1]
       exact hw
     · exact TVRep.out y2 (y1.mono (fun _ _ => rfl) (Nat.le_refl _) hF (Nat.le_refl _) (fun _ _ => rfl))
    have hcl := hbe.clean h (n := st.lk) (by rw [hlk.1]; exact Nat.le_refl _)
    rw [he1] at hcl
    exact ⟨tupV vs, results_run g1, tupV vs, rfl, hcl⟩
  exact exec_ok hΓ hB1 (k := k) (r := (tv, obs')) c (C := inLB B βs obs w) (E := ⟨fun _ _ => none, yfinish Γ fn.results.toList, ⟨true, yEq, yEq_ok⟩⟩) (K := yfinish Γ fn.results.toList) (Q := bodyPost P fn fun e w' => ∃ v, e = .returned v ∧ Behind P J B βs obs wr w tv obs' v w') (st0 := ystart fn.ntmps tvs wr obs)
    (fun _ _ q => q) fin (fun id βs st a w _ _ q => (by cases q)) fin h0 ⟨rfl, rfl, rfl⟩ he
end Go.Proofs.YtbliiipcjbmbiaaGreatDoor.Ev

namespace Go.Proofs.YtbliiipcjbmbiaaGreatDoor.Ev
open Go.RowKit
set_option linter.unusedVariables false
def Ctx.y (Γ : Ctx) (y : Nat → Option YFn) : Ctx := ⟨Γ.ty, Γ.fn, Γ.loops, Γ.frees, Γ.draws, Γ.cuts, Γ.vals, Γ.eqs, Γ.joins, Γ.svs, Γ.io, Γ.xf, y⟩
structure YRow where
  Γ : Ctx
  n : Nat
  res : List ResultVar
  c : Code
/-- 'giv': functions in place that are given, out of the table of the level below -/
def ytab (tab : List (Nat × YRow)) (giv : (Nat → Option YFn) → Nat → Option YFn) : Nat → Nat → Option YFn
  | 0, _ => none
  | m + 1, g => match alookup tab g with
    | some r => some ⟨fun k tvs wr obs => yrun (r.Γ.y fun g => ytab tab giv m g) k r.n r.res r.c tvs wr obs⟩
    | none => giv (fun g => ytab tab giv m g) g
variable {P : Program} {J : Inv} {Γ : Ctx}
theorem CtxOK.y (h : CtxOK P J Γ) {y : Nat → Option YFn} (hy : ∀ g F, y g = some F → YOK P J g F) : CtxOK P J (Γ.y y) := ⟨h.ty, h.fn, h.mixed, h.eq, h.io, h.xf, hy⟩
structure YRowOK (P : Program) (J : Inv) (g : Nat) (r : YRow) : Prop where
  ctx : CtxOK P J r.Γ
  fn : ∃ fn, P.funcs[g]? = some fn ∧ fn.body = some r.c ∧ (fn.name == "runtime.NumGoroutine") = false ∧ fn.ntmps = r.n ∧ fn.results.toList = r.res
theorem ytab_ok {tab : List (Nat × YRow)} {giv : (Nat → Option YFn) → Nat → Option YFn} (ht : ∀ g r, alookup tab g = some r → YRowOK P J g r)
    (hg : ∀ y : Nat → Option YFn, (∀ g F, y g = some F → YOK P J g F) → ∀ g F, giv y g = some F → YOK P J g F) : ∀ (m g : Nat) (F : YFn), ytab tab giv m g = some F → YOK P J g F
  | 0, _, _, h => by cases h
  | m + 1, g, F, h => by
    have ih := ytab_ok ht hg m
    rw [ytab] at h
    split at h
    · rename_i r hr
      cases h
      obtain ⟨hc, fn, h1, h2, h3, h4, h5⟩ := ht g r hr
      rw [← h4, ← h5]
      exact YOK_of (hc.y ih) h1 h2 h3
    · exact hg _ ih g F h
/-- a closed call, run whole -/
theorem fnOK_run {g : Nat} {rs : List Lm} {y : OT rs} {fn : Func} {c : Code} (hΓ : CtxOK P J Γ) (hf : P.funcs[g]? = some fn) (hb : fn.body = some c) (hnm : (fn.name == "runtime.NumGoroutine") = false) {k : Nat}
    (he : runFn Γ k [] rs fn.ntmps fn.results.toList c () = some y) : FnOK P J g ⟨[], rs, fun _ _ => some y⟩ :=
  ⟨⟨fn, hf, by rw [hb]; rfl, hnm⟩, fun k' B vals x y' hB hargs hnd hG hy => by
    cases hy
    exact runFn_ok hΓ hf hb (Nat.zero_le _) hB hargs hnd hG he⟩
end Go.Proofs.YtbliiipcjbmbiaaGreatDoor.Ev

namespace Go.Proofs.YtbliiipcjbmbiaaGreatDoor.Ev
open Go.RowKit
set_option linter.unusedVariables false
set_option linter.unusedSimpArgs false
def ydrun (Γ : Ctx) (k n : Nat) (results : List ResultVar) (c0 rest : Code) (d : Nat) (tvs : List TV) (wr : Nat → Bool) (obs : List Ob) : Option (TV × List Ob) :=
  match Nat.ble tvs.length n with
  | true => (ystart n tvs wr obs).ff fun st0 => exec Γ k c0 ⟨fun _ _ => none, fun _ => none, ⟨true, yEq, yEq_ok⟩⟩ (fun st1 => exec Γ k rest ⟨fun _ _ => none, yfinish Γ results, ⟨true, yEq, yEq_ok⟩⟩ (yfinish Γ results) (st1.put (some d) .dead)) st0
  | false => none
variable {P : Program} {J : Inv} {Γ : Ctx}
theorem YOK_defer (hΓ : CtxOK P J Γ) {g : Nat} {fn : Func} {c0 rest : Code} {id d gd : Nat} {mf df : Oper} {caps : Array Operand} (hf : P.funcs[g]? = some fn) (hb : fn.body = some (c0.seq ((Code.region id #[mf, df] false).seq rest))) (hnm : (fn.name == "runtime.NumGoroutine") = false)
    (hmf : mf.op = .makeFunc (.func gd) #[] caps) (hmg : mf.guard = none) (hmd : mf.dst = some d) (hdf : df.op = .defer { callee := .value (.tmp d), args := #[], argTypes := #[] }) (hdg : df.guard = none) (hdd : df.dst = none) (hd : d < fn.ntmps)
    (hent : ∀ args w, (callFunc gd args).run P w = .ok (.enter gd args) w)
    (hidle : ∀ (args : Array Value) (w : World), args.size = caps.size → CallsD P gd args .returning w fun e u' w' => e = .returned (.tuple #[]) ∧ u' = .returning ∧ w' = w) :
    YOK P J g ⟨fun k tvs wr obs => ydrun Γ k fn.ntmps fn.results.toList c0 rest d tvs wr obs⟩ := by
  refine ⟨⟨fn, hf, by rw [hb]; rfl, hnm⟩, fun k B βs obs wr w tvs vals tv obs' hB h hI ht he => ?_⟩
  have he : ydrun Γ k fn.ntmps fn.results.toList c0 rest d tvs wr obs = some (tv, obs') := he
  unfold ydrun at he
  split at he
  case h_2 => cases he
  rw [St.ff_eq] at he
  rename_i hn
  have hn := Nat.le_of_ble_eq_true hn
  refine calls_of_wp_defers hf hb ?_
  have hB1 := inBase_ok hB h hI
  have h0 := ystart_rep (wr := wr) hB h hn ht
  have fin : ∀ (C : LBase) (ds : List Deferred), C = { inLB B βs obs w with ds := ds } → (∀ (fn : Func) (tmps : Array Value) (R : Ending → World → Prop) (w' : World), (∃ v, (results fn tmps).run P w' = .ok v w' ∧ R (.returned v) w') → Leaves P fn tmps R ds .returning w') →
      ∀ (βs' : List Value) (st : St) (a : Act) (w' : World), Rep P J (inBase B βs obs w) C βs' st a w' → SameLocks (ystart fn.ntmps tvs wr obs) st → yfinish Γ fn.results.toList st = some (tv, obs') →
      Leaves P fn a.tmps (fun e w' => ∃ v, e = .returned v ∧ Behind P J B βs obs wr w tv obs' v w') a.defers .returning w' := by
    rintro C ds rfl hL βs' st a w' h1 hlk he1
    have hdef : a.defers = ds := h1.defers
    rw [hdef]
    refine hL fn a.tmps _ w' ?_
    unfold yfinish at he1
    split at he1
    case h_2 => cases he1
    rename_i tvs1 st1 hr
    split at he1
    case h_2 => cases he1
    rename_i tv1 ho
    have he1 : yclean st.lk (tv1, st1.obs) = (tv, obs') := Option.some.inj he1
    obtain ⟨vs, g1, g2, g3, g4⟩ := resTVs_ok hΓ (h1.toRep' hB1) h1.tmps hr
    have s1 : Step (inBase B βs obs w) βs obs st.wr w βs' st.obs w' := ⟨h1.ext.os, h1.ext.tape, h1.ext.output, h1.ext.size, fun b hb ho => h1.ext.block b hb ho, h1.blen, h1.bext, h1.len, fun b hb => ⟨(h1.own b hb).1.symm, (h1.own b hb).2⟩, h1.inj, fun L hL hw => h1.lock L hL hw, h1.obs⟩
    have s2 := s1.trans g2
    obtain ⟨y1, y2⟩ := yout_rep g3 ho
    have hF : ∀ b, Fz (inBase B βs obs w) βs' st1.obs w' b → Fz B βs' st1.obs w' b ∧ w'.heap[b]? = w'.heap[b]? := fun b hb => ⟨inBase_back h s2.own s2.size hb, rfl⟩
    have hbe : Behind P J B βs obs wr w tv1 st1.obs (tupV vs) w' := by
     refine ⟨βs', ⟨s2.os, s2.tape, s2.output, s2.size, s2.block, s2.blen, s2.bext, s2.len, s2.own, s2.inj, fun L hL hw => s2.lock L hL ?_, fun L hL => (s2.rep L hL).mono hF (Nat.le_refl _) (fun _ _ => rfl) (fun _ _ _ => rfl)⟩, ?_⟩
     · rw [← ystart_low (n := fn.ntmps) (tvs := tvs) (wr := wr) (h.obs.len ▸ hL)] at hw
       unfold St.wr at hw ⊢
       rw [hlk.1, hlk.2.1]
       exact hw
     · exact TVRep.out y2 (y1.mono (fun _ _ => rfl) (Nat.le_refl _) hF (Nat.le_refl _) (fun _ _ => rfl))
    have hcl := hbe.clean h (n := st.lk) (by rw [hlk.1]; exact Nat.le_refl _)
    rw [he1] at hcl
    exact ⟨tupV vs, results_run g1, tupV vs, rfl, hcl⟩
  refine wp_seq (exec_ok hΓ hB1 (k := k) (r := (tv, obs')) c0 (C := inLB B βs obs w) (E := ⟨fun _ _ => none, fun _ => none, ⟨true, yEq, yEq_ok⟩⟩) (K := fun st1 => exec Γ k rest ⟨fun _ _ => none, yfinish Γ fn.results.toList, ⟨true, yEq, yEq_ok⟩⟩ (yfinish Γ fn.results.toList) (st1.put (some d) .dead))
    (st0 := ystart fn.ntmps tvs wr obs) (fun _ _ q => q) (fun βs1 st1 a1 w1 h1 hl1 he1 => ?_) (fun id βs st a w _ _ q => (by cases q)) (fun βs st a w _ _ q => (by cases q)) h0 ⟨rfl, rfl, rfl⟩ he)
  show ((Code.region id #[mf, df] false).seq rest).wp P _ a1 w1
  refine wp_seq (wp_region_list ?_)
  have hsz : a1.tmps.size = fn.ntmps := by rw [h1.size, hl1.2.2]; rfl
  have hdf1 : a1.defers = [] := h1.defers
  show wpList P _ _ [mf, df] a1 w1
  unfold wpList
  rw [if_pos (by simp [Region.wanted, hmg])]
  left
  unfold Oper.wp
  have e1 : (execOp a1.eval mf).run P w1 = .ok (.value (.func (.func gd) #[] (caps.map a1.eval))) w1 := by
    unfold execOp
    rw [hmf]
    simp [Instr.makeFunc]
  rw [e1, Oper.upon_value, hmd]
  unfold wpList
  rw [if_pos (by simp [Region.wanted, hdg])]
  left
  unfold Oper.wp
  have e2 : (execOp (a1.put (some d) (.func (.func gd) #[] (caps.map a1.eval))).eval df).run P w1 = .ok (.defer { target := .fn (.func gd) (caps.map a1.eval), args := #[] }) w1 := by
    unfold execOp
    rw [hdf]
    have : (a1.put (some d) (.func (.func gd) #[] (caps.map a1.eval))).eval (.tmp d) = .func (.func gd) #[] (caps.map a1.eval) := by
      simp [Act.eval, Act.put, hsz, hd]
    simp [resolve, this, Deferred.ofValue]
  rw [e2, Oper.upon_defer, hdd]
  unfold wpList
  have hL : ∀ (fn : Func) (tmps : Array Value) (R : Ending → World → Prop) (w' : World), (∃ v, (results fn tmps).run P w' = .ok v w' ∧ R (.returned v) w') → Leaves P fn tmps R [{ target := .fn (.func gd) (caps.map a1.eval), args := #[] }] .returning w' := fun fn tmps R w' hex =>
    leaves_cons (by simp) (f := gd) (args := caps.map a1.eval) (by simp [invoke, hent]) ((hidle (caps.map a1.eval) w' (by simp)).mono fun e u' w'' q => by
      obtain ⟨rfl, rfl, rfl⟩ := q
      exact hex)
  have h2 := h1.put (d := some d) (tv := .dead) (v := .func (.func gd) #[] (caps.map a1.eval)) (fun _ _ q => q) trivial
  have h3 : Rep P J (inBase B βs obs w) { inLB B βs obs w with ds := [{ target := .fn (.func gd) (caps.map a1.eval), args := #[] }] } βs1 (st1.put (some d) .dead) ({ a1.put (some d) (.func (.func gd) #[] (caps.map a1.eval)) with defers := { target := .fn (.func gd) (caps.map a1.eval), args := #[] } :: (a1.put (some d) (.func (.func gd) #[] (caps.map a1.eval))).defers }) w1 :=
    ⟨h2.ext, h2.own, h2.inj, h2.len, h2.obs, h2.tmps, h2.size, by
      show _ :: (a1.put (some d) _).defers = _
      rw [show (a1.put (some d) (.func (.func gd) #[] (caps.map a1.eval))).defers = [] from h2.defers], h2.keep, h2.mono, h2.msize, h2.blen, h2.bext, h2.lock⟩
  exact exec_ok hΓ hB1 (k := k) (r := (tv, obs')) rest (E := ⟨fun _ _ => none, yfinish Γ fn.results.toList, ⟨true, yEq, yEq_ok⟩⟩) (K := yfinish Γ fn.results.toList) (Q := bodyPostD P fn fun e w' => ∃ v, e = .returned v ∧ Behind P J B βs obs wr w tv obs' v w') (st0 := ystart fn.ntmps tvs wr obs)
    (fun _ _ q => q) (fin _ _ rfl hL) (fun id βs st a w _ _ q => (by cases q)) (fin _ _ rfl hL) h3 hl1.put he1
end Go.Proofs.YtbliiipcjbmbiaaGreatDoor.Ev

namespace Go.Proofs.YtbliiipcjbmbiaaGreatDoor.Ev
open Go.RowKit
set_option linter.unusedVariables false
variable {P : Program} {J : Inv} {Γ : Ctx}
/-- a function of one plain argument, at one datum -/
def atF {k : Kd} {rs : List Lm} (x0 : k.T) (y : OT rs) : Nat → PT [.val k] → Option (OT rs) := fun _ x => match dEq k x.1 x0 with
  | true => some y
  | false => none
theorem fnOK_at {g : Nat} {kd : Kd} {rs : List Lm} {x0 : kd.T} {y : OT rs} {fn : Func} {c : Code} (hΓ : CtxOK P J Γ) (hf : P.funcs[g]? = some fn) (hb : fn.body = some c) (hn : 1 ≤ fn.ntmps) (hnm : (fn.name == "runtime.NumGoroutine") = false) {k : Nat}
    (he : runFn Γ k [.val kd] rs fn.ntmps fn.results.toList c (x0, ()) = some y) : FnOK P J g ⟨[.val kd], rs, atF x0 y⟩ :=
  ⟨⟨fn, hf, by rw [hb]; rfl, hnm⟩, fun k' B vals x y' hB hargs hnd hG hy => by
    have hy : atF x0 y k' x = some y' := hy
    unfold atF at hy
    split at hy
    · rename_i hq
      cases hy
      obtain ⟨x1, u⟩ := x
      have hq : x1 = x0 := dEq_ok _ _ _ hq
      subst hq
      exact runFn_ok hΓ hf hb (ps := [.val kd]) hn hB hargs hnd hG he
    · cases hy⟩
end Go.Proofs.YtbliiipcjbmbiaaGreatDoor.Ev

namespace Go.Proofs.YtbliiipcjbmbiaaGreatDoor.Ev
open Go.Shelf Go.RowKit Go.Lib
set_option linter.unusedVariables false
set_option linter.unusedSimpArgs false

section
variable {P : Program} {ρ : Ren}
set_option maxHeartbeats 2000000 in
set_option maxRecDepth 100000 in
theorem clone_some (L : SlLaysE0.n41 P ρ) (i0 : TypeInfo) (z : Value) (size bytes : Nat) (hi : P.info? (ρ.t 23) = some i0) (hz0 : i0.zero = some z) (hz1 : i0.size = size) (hz2 : i0.bytes = bytes) (hzs : z.cells.size = size) (hsz : 0 < size)
    (z23 : ∀ w, (Go.sizeOf (ρ.t 23)).run P w = .ok size w) (ad : Addr) (n c : Nat) (news : List Value) (w : World) (hl : news.length = n * size) (hn : n ≤ maxLen) (hbig : n * bytes ≤ 140737488355328)
    (hc : ∀ j u, news[j]? = some u → w.cell? (ad.add j) = some u) (h1 : ∀ u ∈ news, u.oneCell' = true) :
    Calls P (ρ.f 41) #[.slice (some ad) n c] w fun e w' => ∃ v', e = .returned v' ∧ w'.ownsRow w.heap.size (ρ.t 23) size v' n news ∧ Below w.heap.size w w' := by
  have mixed := L.mixed; have t4 := L.t4; have a4 := L.a4; have z4 := L.z4; have v4 := L.v4; have t22 := L.t22; have a22 := L.a22; have z22 := L.z22; have v22 := L.v22
  have q22 : ∀ (w : World) (a : Option Addr) (n c n' c' : Nat), (binOp .eql (ρ.t 22) (.slice a n c) (.slice none n' c')).run P w = .ok (.bool a.isNone) w := fun w a n c n' c' => Lib.run_eql_slice_nil w _ _ a n c n' c' L.t22
  have u22 : ∀ w, Sem.run P (underlying (ρ.t 22)) w = .ok (TypeDesc.slice (ρ.t 23)) w := run_underlying t22
  have A : Aside (∀ j u, news[j]? = some u → w.cell? (ad.add j) = some u) := hc
  clear hc
  obtain ⟨_, _, FG⟩ := L.f41
  go_enter FG, SlBodyN.n41_ntmps ρ
  go_wp2_with (at_builtin; refine wpList_append_own _ rfl _ _ (ρ.t 22) rfl w.heap.size (ρ.t 23) i0 z size bytes t22 hi hz0 hz1 hz2 hzs hsz _ _ _ rfl (World.ownsRow_made w #[] 0 (Nat.le_refl _) (Nat.zero_le _) (by simp)) ad n c news rfl ?qc1 ?qc2 ?qc3 ?qc4 ?qc5 ?qc6 ?_)
  case qc1 => exact hl
  case qc2 =>
    intro j u hj
    exact Lib.cell?_alloc_some _ (A.out j u hj)
  case qc3 => exact h1
  case qc4 => rw [Nat.zero_add]; exact hn
  case qc5 => rw [Nat.zero_add]; exact hbig
  case qc6 => simp
  intro v' w1 hown hgrow hnil
  go_wp2
  go_ret
  refine ⟨v', rfl, by simpa using hown, ?_⟩
  exact ((Below.refl _ w).alloc (Nat.le_refl _) _).grown hgrow (by simp) (by intro k hk; simp [Value.ownBlock] at hk; omega)
end

variable {P : Program} {J : Inv}
/-- a contract whose one result is an array of the caller's own from then on -/
theorem FnOK.givenOwn {g : Nat} {ps : List Pm} {e : Kd} {f : Nat → PT ps → Option (List e.T)} (hps : ∀ vals, ownBs ps vals = []) (henter : ∃ fn, P.funcs[g]? = some fn ∧ fn.body.isSome = true ∧ (fn.name == "runtime.NumGoroutine") = false)
    (h : ∀ (k : Nat) (w : World) (F S : Nat → Prop) (x : PT ps) (y : List e.T) (vals : List Value), J.I w → J.gz ≤ w.heap.size → (∀ b, F b → b < w.heap.size) → ArgsRep P J w F S ps x vals → f k x = some y →
      Calls P g vals.toArray w fun en w' => ∃ v, en = .returned v ∧ ObRep w' F [] v (.arr e y) ∧ (∀ b, bOf v = some b → w.heap.size ≤ b ∧ b < w'.heap.size) ∧ Below w.heap.size w w') : FnOK P J g ⟨ps, [.own e], f⟩ := by
  refine ⟨henter, fun k B vals x y hB hargs hnd hG hy => ?_⟩
  refine (h k B.w0 B.F0 B.S x y vals hB.inv hB.gz (fun b hb => (hB.f0 b hb).1) hargs hy).mono fun en w' ⟨v, h1, h2, h3, h4⟩ => ?_
  have hrs : ownRs [Lm.own e] [v] = (bOf v).toList := by simp [ownRs]
  refine ⟨[v], h1, ⟨v, rfl, ?_⟩, ?_, ?_, Below.ext h4⟩
  · exact ObRep.mono (fun b hb => ⟨.inl hb, rfl⟩) (Nat.le_refl _) (fun _ _ => rfl) (fun b _ _ => rfl) h2
  · rw [hrs]; cases bOf v <;> simp
  · rw [hrs]
    intro b hb
    have hb' : bOf v = some b := by
      cases hv : bOf v with
      | none => rw [hv] at hb; simp at hb
      | some c => rw [hv] at hb; simp at hb; rw [hb]
    exact ⟨.inl (h3 b hb').1, (h3 b hb').2⟩

/-- a row of the call's own is an own array -/
theorem ownsRow_arr {w w' : World} {F : Nat → Prop} {et : TypeId} {e : Kd} {v : Value} {l : List e.T} {news : List Value} (h : w'.ownsRow w.heap.size et e.sz v l.length news)
    (hr : ∀ (i : Nat) (hi : i < l.length), Rd w' F e ((news.drop (i * e.sz)).take e.sz) l[i]) : ObRep w' F [] v (.arr e l) ∧ ∀ b, bOf v = some b → w.heap.size ≤ b ∧ b < w'.heap.size := by
  obtain ⟨h1, ⟨rfl, h2⟩ | ⟨g, cap, cur, rfl, h3, h4, h5, h6, h7, h8⟩⟩ := h
  · exact ⟨.inl ⟨rfl, List.eq_nil_of_length_eq_zero h2⟩, fun b hb => by simp [bOf] at hb⟩
  · have hg : g < w'.heap.size := by
      rcases Nat.lt_or_ge g w'.heap.size with q | q
      · exact q
      · rw [Array.getElem?_eq_none q] at h4; cases h4
    refine ⟨.inr ⟨g, 0, cap, cur, et, (0, 0), rfl, h4, fun o _ => by simp, by rw [Nat.zero_add, h7]; exact Nat.le_refl _, h5, fun i hi => ⟨_, ?_, fun j hj => ?_, hr i hi⟩⟩, fun b hb => by
      simp only [bOf, Option.some.injEq] at hb
      subst hb
      exact ⟨h3, hg⟩⟩
    · have hle : (i + 1) * e.sz ≤ l.length * e.sz := Nat.mul_le_mul_right _ hi
      rw [Nat.add_mul] at hle
      rw [List.length_take, List.length_drop, h1]; omega
    · have hle : (i + 1) * e.sz ≤ l.length * e.sz := Nat.mul_le_mul_right _ hi
      rw [Nat.add_mul] at hle
      rw [List.getElem?_take, if_pos hj, List.getElem?_drop, ← h8, List.getElem?_take, if_pos (by omega), Nat.zero_add]
      simp

theorem fnOK_clone {ρ : Ren} {e : Kd} {bytes : Nat} (L : SlLaysE0.n41 P ρ) (henter : ∃ fn, P.funcs[ρ.f 41]? = some fn ∧ fn.body.isSome = true ∧ (fn.name == "runtime.NumGoroutine") = false)
    (hE : ElOK P (ρ.t 23) e) (hby : ∀ i, P.info? (ρ.t 23) = some i → i.bytes = bytes) (hsz : 0 < e.sz) (hz : bytes ≠ 0) :
    FnOK P J (ρ.f 41) ⟨[.val (.slice e)], [.own e], fun _ x => if x.1.length * bytes ≤ 140737488355328 then some x.1 else none⟩ := by
  obtain ⟨i, i1, i2, z, i3, i4⟩ := hE.info
  have hzc : z.cells.toList = e.zeroCells := by rw [valCells_cells i4 (Kd.zero_one e)]
  have hzs : z.cells.size = e.sz := by rw [← Array.length_toList, hzc, Kd.zeroCells_length]
  have hso : ∀ w, (Go.sizeOf (ρ.t 23)).run P w = .ok e.sz w := fun w => by simp [Go.sizeOf, typeInfo, i1, i2]
  refine FnOK.givenOwn (fun vals => by cases vals <;> rfl) henter fun k w F S x y vals hI hgz hF hargs hy => ?_
  obtain ⟨v1, r1, rfl, a1, hr⟩ := hargs
  have hr : r1 = [] := hr
  subst hr
  split at hy
  · rename_i hc
    cases hy
    obtain ⟨_, vs, q1, A, c, q2, q3, q4⟩ := a1
    subst q2
    have hv : v1 = .slice A x.1.length c := by
      unfold valCells at q1
      simpa [Kd.isAgg] using q1.symm
    subst hv
    have hlen : x.1.length ≤ maxLen := by
      have : x.1.length * 1 ≤ x.1.length * bytes := Nat.mul_le_mul_left _ (by omega)
      unfold maxLen; omega
    cases A with
    | none =>
      have hx : x.1 = [] := by
        rcases q4 with q | ⟨ad, q, _⟩
        · exact q
        · cases q
      refine (AnyE.slices_Clone_nil L x.1.length c w).mono fun en w' ⟨e1, e2⟩ => ?_
      subst e2
      exact ⟨_, e1, .inl ⟨rfl, hx⟩, fun b hb => by simp [bOf] at hb, Below.refl _ _⟩
    | some ad =>
      have hrow : ∀ (i : Nat) (hi : i < x.1.length), ∃ cs : List Value, cs.length = e.sz ∧ (∀ j, j < e.sz → w.cell? (ad.add (i * e.sz + j)) = cs[j]?) ∧ Rd w F e cs x.1[i] := fun i hi => by
        rcases q4 with q | ⟨ad', q, q5, q6⟩
        · rw [q] at hi; cases hi
        · cases q
          exact q6 i hi
      obtain ⟨news, n1, n2, n3, n4⟩ := row_cells hrow
      refine (clone_some L i z e.sz bytes i1 i3 i2 (hby i i1) hzs hsz hso ad x.1.length c news w n1 hlen hc n2 n3).mono fun en w' ⟨v', e1, e2, e3⟩ => ?_
      obtain ⟨o1, o2⟩ := ownsRow_arr e2 (fun i hi => Rd.mono (fun b hb => ⟨hb, e3.block b (hF b hb)⟩) (n4 i hi))
      exact ⟨v', e1, o1, o2, e3⟩
  · cases hy
end Go.Proofs.YtbliiipcjbmbiaaGreatDoor.Ev

namespace Go.Proofs.YtbliiipcjbmbiaaGreatDoor.Ev
open Go.RowKit
set_option linter.unusedVariables false
set_option linter.unusedSimpArgs false
variable {P : Program} {J : Inv}

def trimF (s c : ByteArray) : Option ByteArray := if s.size ≤ 9223372036854775807 ∧ c.size < 4294967281 ∧ c.data.toList.all (fun b => decide (b.toNat < 128)) = true then some ⟨(Lib.trimS s.data.toList c.data.toList).toArray⟩ else none
theorem fnOK_trim {g : Nat} (henter : ∃ fn, P.funcs[g]? = some fn ∧ fn.body.isSome = true ∧ (fn.name == "runtime.NumGoroutine") = false)
    (h : ∀ (s c : ByteArray) (w : World), s.size ≤ 9223372036854775807 → c.size < 4294967281 → (∀ (j : Nat) b, c.data.toList[j]? = some b → b.toNat < 128) →
      Calls P g #[.string s, .string c] w fun en w' => en = .returned (.string ⟨(Lib.trimS s.data.toList c.data.toList).toArray⟩) ∧ Below w.heap.size w w') :
    FnOK P J g ⟨[.val .str, .val .str], [.val .str], fun _ x => trimF x.1 x.2.1⟩ := by
  refine FnOK.given henter fun k w F S x y vals hI hgz hF hargs hy => ?_
  obtain ⟨v1, r1, rfl, a1, v2, r2, rfl, a2, hr⟩ := hargs
  have hr : r2 = [] := hr
  subst hr
  obtain rfl := arg_str a1
  obtain rfl := arg_str a2
  unfold trimF at hy
  split at hy
  · rename_i hc
    cases hy
    refine (h x.1 x.2.1 w hc.1 hc.2.1 (ascii_of_all hc.2.2)).mono fun en w' ⟨h1, h2⟩ => ?_
    exact ⟨_, h1, ⟨rfl, [_], by simp [valCells, Kd.isAgg], rfl⟩, h2⟩
  · cases hy

def joinF (l : List ByteArray) (s : ByteArray) : Option ByteArray := if l.length ≤ 140737488355328 ∧ (Lib.join (l.map (·.data.toList)) s.data.toList).length ≤ 140737488355328 then some ⟨(Lib.join (l.map (·.data.toList)) s.data.toList).toArray⟩ else none
theorem fnOK_join {g : Nat} (henter : ∃ fn, P.funcs[g]? = some fn ∧ fn.body.isSome = true ∧ (fn.name == "runtime.NumGoroutine") = false)
    (h0 : ∀ (a : Option Addr) (c : Nat) (sep : ByteArray) (w : World), Calls P g #[.slice a 0 c, .string sep] w fun e w' => e = .returned (.string ⟨#[]⟩) ∧ w' = w)
    (h1 : ∀ (bk o c : Nat) (xs : List ByteArray) (sep : ByteArray) (w : World), (∀ (j : Nat) x, xs[j]? = some x → w.cell? ⟨bk, o + j, none⟩ = some (.string x)) → bk < w.heap.size → xs.length ≤ 140737488355328 → xs.length ≤ c → (Lib.join (xs.map (·.data.toList)) sep.data.toList).length ≤ 140737488355328 →
      Calls P g #[.slice (some ⟨bk, o, none⟩) xs.length c, .string sep] w fun e w' => e = .returned (.string ⟨(Lib.join (xs.map (·.data.toList)) sep.data.toList).toArray⟩) ∧ Below w.heap.size w w') :
    FnOK P J g ⟨[.val (.slice .str), .val .str], [.val .str], fun _ x => joinF x.1 x.2.1⟩ := by
  refine FnOK.given henter fun k w F S x y vals hI hgz hF hargs hy => ?_
  obtain ⟨v1, r1, rfl, a1, v2, r2, rfl, a2, hr⟩ := hargs
  have hr : r2 = [] := hr
  subst hr
  obtain rfl := arg_str a2
  unfold joinF at hy
  split at hy
  · rename_i hc
    cases hy
    rcases strs_cells a1 with ⟨q1, A, c, rfl⟩ | ⟨b, off, c, rfl, q2, q3, q4⟩
    · refine (h0 A c x.2.1 w).mono fun en w' ⟨e1, e2⟩ => ?_
      subst e2
      exact ⟨_, e1, by rw [q1]; exact ⟨rfl, [_], by simp [valCells, Kd.isAgg, Lib.join, List.intercalate], rfl⟩, Below.refl _ _⟩
    · refine (h1 b off c x.1 x.2.1 w (fun j s hj => ?_) (hF b q3) hc.1 q2 hc.2).mono fun en w' ⟨e1, e2⟩ => ?_
      · have hjl : j < x.1.length := by
          rcases Nat.lt_or_ge j x.1.length with q | q
          · exact q
          · rw [List.getElem?_eq_none q] at hj; cases hj
        rw [List.getElem?_eq_getElem hjl] at hj
        cases hj
        exact q4 j hjl
      · exact ⟨_, e1, ⟨rfl, [_], by simp [valCells, Kd.isAgg], rfl⟩, e2⟩
  · cases hy

def cutF (s p : ByteArray) : Option (ByteArray × ByteArray × Bool) := if s.size < 4294967281 then some (⟨(Lib.cut s.data.toList p.data.toList).1.toArray⟩, ⟨(Lib.cut s.data.toList p.data.toList).2.1.toArray⟩, (Lib.cut s.data.toList p.data.toList).2.2) else none
theorem fnOK_cut {g cell : Nat} (henter : ∃ fn, P.funcs[g]? = some fn ∧ fn.body.isSome = true ∧ (fn.name == "runtime.NumGoroutine") = false)
    (h : ∀ (s sep : ByteArray) (m : Int) (w : World), s.size < 4294967281 → w.cell? ⟨cell, 0, none⟩ = some (.int .i64 m) → Calls P g #[.string s, .string sep] w fun en w' =>
      en = .returned (.tuple #[.string ⟨(Lib.cut s.data.toList sep.data.toList).1.toArray⟩, .string ⟨(Lib.cut s.data.toList sep.data.toList).2.1.toArray⟩, .bool (Lib.cut s.data.toList sep.data.toList).2.2]) ∧ ∃ n, w' = w.drewN n) :
    FnOK P (cellInv cell) g ⟨[.val .str, .val .str], [.val .str, .val .str, .val .bool], fun _ x => cutF x.1 x.2.1⟩ := by
  refine ⟨henter, fun k B vals x y hB hargs hnd hG hy => ?_⟩
  obtain ⟨v1, r1, rfl, a1, v2, r2, rfl, a2, hr⟩ := hargs
  have hr : r2 = [] := hr
  subst hr
  obtain rfl := arg_str a1
  obtain rfl := arg_str a2
  obtain ⟨m, hm⟩ := hB.inv
  have hy : cutF x.1 x.2.1 = some y := hy
  unfold cutF at hy
  split at hy
  · rename_i hc
    cases hy
    refine (h x.1 x.2.1 m B.w0 hc hm).mono fun en w' ⟨e1, n, e2⟩ => ?_
    subst e2
    have hs : ∀ (F : Nat → Prop) (s : ByteArray), RdV (B.w0.drewN n) F .str (.string s) s := fun F s => ⟨rfl, [_], by simp [valCells, Kd.isAgg], rfl⟩
    have hb : ∀ (F : Nat → Prop) (s : Bool), RdV (B.w0.drewN n) F .bool (.bool s) s := fun F s => ⟨rfl, [_], by simp [valCells, Kd.isAgg], rfl⟩
    refine ⟨[_, _, _], e1, ⟨_, _, rfl, hs _ _, _, _, rfl, hs _ _, _, rfl, hb _ _⟩, by simp [ownRs], by simp [ownRs], Below.ext ?_⟩
    exact (Below.refl _ _).trans ⟨rfl, rfl, rfl, Nat.le_refl _, fun _ _ => rfl⟩
  · cases hy
theorem fnOK_compare {g : Nat} (henter : ∃ fn, P.funcs[g]? = some fn ∧ fn.body.isSome = true ∧ (fn.name == "runtime.NumGoroutine") = false)
    (h : ∀ (a b : ByteArray) (w : World), Calls P g #[.string a, .string b] w fun en w' => en = .returned (.int .i64 (Lib.compareBytes a.data.toList b.data.toList)) ∧ w' = w) :
    FnOK P J g ⟨[.val .str, .val .str], [.val (.int .i64)], fun _ x => some (Lib.compareBytes x.1.data.toList x.2.1.data.toList)⟩ := by
  refine FnOK.given henter fun k w F S x y vals hI hgz hF hargs hy => ?_
  obtain ⟨v1, r1, rfl, a1, v2, r2, rfl, a2, hr⟩ := hargs
  have hr : r2 = [] := hr
  subst hr
  obtain rfl := arg_str a1
  obtain rfl := arg_str a2
  cases hy
  refine (h x.1 x.2.1 w).mono fun en w' ⟨h1, h2⟩ => ?_
  subst h2
  exact ⟨_, h1, ⟨rfl, [_], by simp [valCells, Kd.isAgg], rfl⟩, Below.refl _ _⟩
end Go.Proofs.YtbliiipcjbmbiaaGreatDoor.Ev

namespace Go.Proofs.YtbliiipcjbmbiaaGreatDoor.Ev
open Go.Shelf Go.RowKit Go.Lib Go.Sort
set_option linter.unusedVariables false
set_option linter.unusedSimpArgs false
variable {P : Program} {J : Inv} {ρ : Ren}

/-- sorted by a comparison that tells whatever two of the list apart -/
def sortF {α : Type} (cf : α → α → Int) (l : List α) : Option (List α) := if l.Pairwise (fun a b => cf a b < 0 ∨ cf b a < 0) ∧ l.length < 4611686018427387904 then some (l.mergeSort fun a b => !ltOf cf b a) else none
structure CmpOK (P : Program) (g : Nat) (e : Kd) (cf : e.T → e.T → Int) : Prop where
  swo : SWO (ltOf cf)
  enters : ∀ args w, (callFunc g args).run P w = .ok (.enter g args) w
  gives : ∀ (w0 : World) (F : Nat → Prop) (c1 c2 : List Value) (x y : e.T) (w : World), Rd w0 F e c1 x → Rd w0 F e c2 y → Calls P g #[.agg c1.toArray, .agg c2.toArray] w fun e' w' => e' = .returned (.int .i64 (cf x y)) ∧ ∃ q os, w' = grow (w.drewN q) os

theorem Rd.oneCell {w : World} {F : Nat → Prop} : ∀ {k : Kd} {vs : List Value} {x : k.T}, Rd w F k vs x → ∀ v ∈ vs, v.oneCell' = true
  | .int _, _, _, h, v, hv => by rw [show _ = _ from h] at hv; rw [List.mem_singleton.1 hv]; rfl
  | .bool, _, _, h, v, hv => by rw [show _ = _ from h] at hv; rw [List.mem_singleton.1 hv]; rfl
  | .str, _, _, h, v, hv => by rw [show _ = _ from h] at hv; rw [List.mem_singleton.1 hv]; rfl
  | .slice e, _, _, ⟨A, c, h1, _⟩, v, hv => by rw [h1] at hv; rw [List.mem_singleton.1 hv]; rfl
  | .map kk kv, _, _, h, v, hv => by
    rcases h with h | ⟨r, es, clock, h1, _⟩
    · rw [h.1] at hv; rw [List.mem_singleton.1 hv]; rfl
    · rw [h1] at hv; rw [List.mem_singleton.1 hv]; rfl
  | .iter g kk kv, _, _, h, v, hv => by
    rcases h with h | ⟨bx, v', m, h1, _⟩
    · rw [h.1] at hv; rw [List.mem_singleton.1 hv]; rfl
    · rw [h1] at hv; rw [List.mem_singleton.1 hv]; rfl
  | .oslice n, _, _, ⟨A, c, h1, _⟩, v, hv => by rw [h1] at hv; rw [List.mem_singleton.1 hv]; rfl
  | .optr, _, _, ⟨q, h1, _⟩, v, hv => by rw [h1] at hv; rw [List.mem_singleton.1 hv]; cases q <;> rfl
  | .ofn, _, _, ⟨h1, _⟩, v, hv => by rw [h1] at hv; rw [List.mem_singleton.1 hv]; rfl
  | .unit, _, _, h, v, hv => by rw [show _ = _ from h] at hv; cases hv
  | .pair a b, _, _, ⟨va, vb, h1, h2, h3⟩, v, hv => by
    rw [h1] at hv
    rcases List.mem_append.1 hv with q | q
    · exact Rd.oneCell h2 v q
    · exact Rd.oneCell h3 v q
  | .agg c, vs, x, h, v, hv => Rd.oneCell (k := c) h v hv
/-- an element with its cells -/
def El (w : World) (F : Nat → Prop) (e : Kd) : Type := {q : List Value × e.T // Rd w F e q.1 q.2}
def El.cs {w : World} {F : Nat → Prop} {e : Kd} (x : El w F e) : List Value := x.1.1
def El.dat {w : World} {F : Nat → Prop} {e : Kd} (x : El w F e) : e.T := x.1.2
instance {w : World} {F : Nat → Prop} {e : Kd} : Inhabited (El w F e) := ⟨⟨(e.zeroCells, e.dflt), Rd.zero e⟩⟩

theorem sorted_eq {α : Type} {lt : α → α → Bool} (hO : SWO lt) {l m : List α} (hp : m.Perm l) (hs : m.Pairwise fun a b => lt b a = false) (hd : l.Pairwise fun a b => lt a b = true ∨ lt b a = true) : m = l.mergeSort fun a b => !lt b a := by
  have trans : ∀ a b c : α, (!lt b a) = true → (!lt c b) = true → (!lt c a) = true := fun a b c h1 h2 => by
    simp only [Bool.not_eq_true'] at *
    exact hO.ntrans c b a h2 h1
  have asym : ∀ a b : α, lt a b = true → lt b a = false := fun a b h => by
    cases hb : lt b a with
    | false => rfl
    | true => rw [← hO.irrefl a]; exact (hO.trans a b a h hb).symm
  have total : ∀ a b : α, (!lt b a || !lt a b) = true := fun a b => by
    cases hb : lt b a with
    | false => rfl
    | true => rw [asym b a hb]; rfl
  have hs2 := List.pairwise_mergeSort (le := fun a b => !lt b a) trans total l
  have hp2 : m.Perm (l.mergeSort fun a b => !lt b a) := hp.trans (List.mergeSort_perm l _).symm
  have hd' : ∀ a ∈ l, ∀ b ∈ l, a ≠ b → lt a b = true ∨ lt b a = true := fun a ha b hb hne =>
    by
      obtain ⟨i, hi, rfl⟩ := List.getElem_of_mem ha
      obtain ⟨j, hj, rfl⟩ := List.getElem_of_mem hb
      rcases Nat.lt_trichotomy i j with q | q | q
      · exact List.pairwise_iff_getElem.1 hd i j hi hj q
      · subst q; exact absurd rfl hne
      · exact (List.pairwise_iff_getElem.1 hd j i hj hi q).symm
  refine List.Perm.eq_of_pairwise (le := fun a b => (!lt b a) = true) (fun a b ha hb h1 h2 => ?_) (hs.imp fun h => by rw [h]; rfl) hs2 hp2
  have ha' := hp.mem_iff.1 ha
  have hb' := (List.mergeSort_perm l _).mem_iff.1 hb
  refine Classical.byContradiction fun hne => ?_
  simp only [Bool.not_eq_true'] at h1 h2
  rcases hd' a ha' b hb' hne with q | q
  · rw [h2] at q; cases q
  · rw [h1] at q; cases q

theorem ioOK_sortFunc {e : Kd} (L : SlLaysF0.n6 P ρ) (aE : ∀ w, (Go.isAgg (ρ.t 24)).run P w = .ok true w) (zE : ∀ w, (Go.sizeOf (ρ.t 24)).run P w = .ok e.sz w) (hpos : 0 < e.sz)
    (hent : ∃ fn, P.funcs[ρ.f 6]? = some fn ∧ fn.body.isSome = true ∧ (fn.name == "runtime.NumGoroutine") = false) (tab : Nat → Option (e.T → e.T → Int)) (htab : ∀ g cf, tab g = some cf → CmpOK P g e cf) :
    IoOK P J (ρ.f 6) ⟨e, fun _ l gs => match gs with
      | [g] => (tab g).bind fun cf => sortF cf l
      | _ => none⟩ := by
  refine ⟨hent, fun k B F0 v l gs l' hB hF0 hob hG hf => ?_⟩
  dsimp only at hf hob l'
  cases gs with
  | nil => cases hf
  | cons g gr =>
  cases gr with
  | cons g' gr => cases hf
  | nil =>
  dsimp only at hf
  cases htg : tab g with
  | none => rw [htg] at hf; cases hf
  | some cf =>
  rw [htg] at hf
  have hc := htab g cf htg
  unfold sortF at hf
  dsimp only [Option.bind_some] at hf
  split at hf
  rotate_left
  · cases hf
  rename_i hcond
  cases hf
  rcases hob with ⟨rfl, rfl⟩ | ⟨b, off, cap, c, t, fr, rfl, h2, h3, h4, h5, h6⟩
  · refine (AnyF.slices_SortFunc_none { L with } none 0 (.func (.func g) #[] #[]) B.w0).mono fun e' w' ⟨q1, q2⟩ => ?_
    subst q2
    refine ⟨q1, ⟨rfl, rfl, rfl, Nat.le_refl _, fun _ _ _ => rfl⟩, .inl ⟨rfl, by simp⟩⟩
  have hbG := hG b rfl
  -- the elements with their cells
  have hel : ∀ i : Fin l.length, ∃ x : El B.w0 F0 e, x.dat = l[i] ∧ x.cs.length = e.sz ∧ ∀ j, j < e.sz → c[off + (i * e.sz + j)]? = x.cs[j]? := fun i => by
    obtain ⟨cs, e1, e2, e3⟩ := h6 i.1 i.2
    exact ⟨⟨(cs, l[i]), e3⟩, rfl, e1, e2⟩
  obtain ⟨el, hel⟩ := Classical.axiomOfChoice hel
  let d : Array (El B.w0 F0 e) := Array.ofFn el
  have hds : d.size = l.length := by simp [d]
  have hdl : d.toList.map El.dat = l := by
    apply List.ext_getElem
    · simp [d]
    · intro i h1 h2
      simp [d]
      exact (hel ⟨i, h2⟩).1
  have hk : ∀ x : El B.w0 F0 e, x.cs.length = e.sz := fun x => x.2.length
  have h1c : ∀ x : El B.w0 F0 e, ∀ v ∈ x.cs, v.oneCell' = true := fun x => x.2.oneCell
  have hcsz : off + l.length * e.sz ≤ c.size := Nat.le_trans (Nat.add_le_add_left (Nat.mul_le_mul_right _ h5) _) h4
  have hH : HoldsK El.cs e.sz B.w0 b off d := fun j hj => by
    rw [size_flatK, hds] at hj
    have hdiv : j / e.sz < l.length := Nat.div_lt_of_lt_mul (by rw [Nat.mul_comm]; exact hj)
    have hmod : j % e.sz < e.sz := Nat.mod_lt _ hpos
    have hje : j / e.sz * e.sz + j % e.sz = j := by rw [Nat.mul_comm]; exact Nat.div_add_mod j e.sz
    have hcell := (hel ⟨j / e.sz, hdiv⟩).2.2 (j % e.sz) hmod
    have hjc : off + j < c.size := by omega
    refine ⟨?_, ?_⟩
    · rw [get_flatK _ _ _ _ (by rw [hds]; exact hj)]
      unfold World.cell?
      rw [h2]
      have hd2 : d[j / e.sz]! = el ⟨j / e.sz, hdiv⟩ := by
        rw [getElem!_pos d _ (by rw [hds]; exact hdiv)]
        simp [d]
      dsimp only at hcell ⊢
      rw [hje] at hcell
      rw [hd2, hcell]
      have := hk (el ⟨j / e.sz, hdiv⟩)
      have hml : j % e.sz < (el ⟨j / e.sz, hdiv⟩).cs.length := by omega
      simp only [id]
      rw [getElem!_pos (el ⟨j / e.sz, hdiv⟩).cs (j % e.sz) hml, List.getElem?_eq_getElem hml]
      rfl
    · unfold World.frozen?
      rw [h2]
      exact h3 (off + j) (by omega)
  have hlt : b < B.w0.heap.size := hbG.2
  have hO' : SWO (ltOf fun x y : El B.w0 F0 e => cf x.dat y.dat) := ⟨fun x => hc.swo.irrefl x.dat, fun x y z => hc.swo.trans x.dat y.dat z.dat, fun x y z => hc.swo.ntrans x.dat y.dat z.dat⟩
  have hcmp : CmpLays P g #[] El.cs e.sz (fun x y : El B.w0 F0 e => cf x.dat y.dat) b off d.size B.w0 := fun m os dk hdk x y => by
    have := hc.gives B.w0 F0 x.cs y.cs x.dat y.dat (sortWorldK El.cs e.sz B.w0 b off m dk os) x.2 y.2
    exact this
  have hcall := AnyQ.slices_SortFunc L e.sz aE zE El.cs hk h1c (fun x y : El B.w0 F0 e => cf x.dat y.dat) hO' g #[] b off cap d B.w0 hc.enters hcmp hH hlt (by rw [hds]; exact hcond.2)
  rw [hds] at hcall
  refine hcall.mono fun e' w' ⟨q1, d', n, os, hp, hs, hw⟩ => ?_
  obtain ⟨hp1, _, hp3⟩ := hp
  rw [hds] at hp1
  have hperm : d'.toList.Perm d.toList := by
    have e1 : d'.extract 0 l.length = d' := by rw [← hp1]; simp
    have e2 : d.extract 0 l.length = d := by rw [← hds]; simp
    rw [e1, e2] at hp3
    exact hp3
  have hlist : d'.toList.map El.dat = l.mergeSort fun a b => !ltOf cf b a := by
    refine sorted_eq hc.swo ?_ ?_ (hcond.1.imp fun {a b} h => ?_)
    · rw [← hdl]; exact hperm.map _
    · rw [List.pairwise_map, List.pairwise_iff_getElem]
      intro i j hi hj hij
      have hi' : i < d'.size := by simpa using hi
      have hj' : j < d'.size := by simpa using hj
      have := hs i j (Nat.zero_le _) hij (by omega)
      rw [getElem!_pos d' i hi', getElem!_pos d' j hj'] at this
      simpa [ltOf] using this
    · unfold ltOf
      rcases h with h | h
      · exact .inl (decide_eq_true h)
      · exact .inr (decide_eq_true h)
  have hl' : (l.mergeSort fun a b => !ltOf cf b a).length = l.length := List.length_mergeSort _
  have hbl : w'.heap[b]? = some (.cells (Go.Sort.putCells id off (flatK El.cs e.sz d') c) t fr) := by
    rw [hw]
    unfold sortWorldK grow putRowK putRow mapBlock
    dsimp only
    rw [Array.getElem?_append_left (by simp [Sort.ahead]; exact hlt), Array.getElem?_modify, if_pos rfl]
    show Option.map _ (B.w0.heap[b]?) = _
    rw [h2]; rfl
  refine ⟨q1, ⟨by rw [hw]; rfl, by rw [hw]; rfl, by rw [hw]; rfl, by rw [hw]; simp [sortWorldK, grow, putRowK, Sort.ahead, Base.n0], fun b' hb' hn => ?_⟩, .inr ⟨b, off, cap, _, t, fr, by rw [hl'], hbl, ?_, ?_, by rw [hl']; exact h5, fun i hi => ?_⟩⟩
  · have hne : b ≠ b' := fun q => hn (q ▸ hbG.1)
    rw [hw]
    unfold sortWorldK grow putRowK putRow mapBlock
    dsimp only
    rw [Array.getElem?_append_left (by simp [Sort.ahead]; exact hb'), Array.getElem?_modify, if_neg hne]
    rfl
  · rw [show (Go.Sort.putCells id off (flatK El.cs e.sz d') c).size = c.size by simp [Go.Sort.putCells]]; exact h3
  · rw [show (Go.Sort.putCells id off (flatK El.cs e.sz d') c).size = c.size by simp [Go.Sort.putCells]]; exact h4
  · have hi' : i < d'.size := by rw [hl'] at hi; omega
    have hil : i < l.length := by omega
    refine ⟨(d'[i]).cs, hk _, fun j hj => ?_, ?_⟩
    · have hj : j < e.sz := hj
      have hij : i * e.sz + j < l.length * e.sz := by
        have : (i + 1) * e.sz ≤ l.length * e.sz := Nat.mul_le_mul_right _ hil
        rw [Nat.add_mul] at this; omega
      simp only [Go.Sort.putCells, Array.getElem?_mapIdx]
      have hin : off + (i * e.sz + j) < c.size := by omega
      rw [Array.getElem?_eq_getElem hin]
      simp only [Option.map_some, size_flatK, hp1]
      rw [if_pos ⟨by omega, by omega⟩, show off + (i * e.sz + j) - off = i * e.sz + j by omega, get_flatK _ _ _ _ (by rw [hp1]; exact hij)]
      have hdiv : (i * e.sz + j) / e.sz = i := by rw [Nat.mul_comm, Nat.mul_add_div hpos, Nat.div_eq_of_lt hj]; rfl
      have hmod : (i * e.sz + j) % e.sz = j := by rw [Nat.mul_comm, Nat.mul_add_mod, Nat.mod_eq_of_lt hj]
      rw [hdiv, hmod, getElem!_pos d' i hi', getElem!_pos _ _ (by rw [hk]; exact hj), List.getElem?_eq_getElem (by rw [hk]; exact hj)]
      rfl
    · have hg : (l.mergeSort fun a b => !ltOf cf b a)[i] = (d'[i]).dat := by
        have := List.getElem_of_eq hlist.symm hi
        rw [this]
        simp
      rw [hg]
      have hr := (d'[i]).2
      refine Rd.mono (fun q hq => ⟨hq, ?_⟩) hr
      obtain ⟨f1, f2⟩ := hF0 q hq
      have hne : b ≠ q := fun e' => f2 (e' ▸ hbG.1)
      rw [hw]
      unfold sortWorldK grow putRowK putRow mapBlock
      dsimp only
      rw [Array.getElem?_append_left (by simp [Sort.ahead]; exact f1), Array.getElem?_modify, if_neg hne]
      rfl
end Go.Proofs.YtbliiipcjbmbiaaGreatDoor.Ev

namespace Go.Proofs.YtbliiipcjbmbiaaGreatDoor.Ev
open Go.Shelf Go.RowKit Go.Lib Go.Sort
set_option linter.unusedVariables false
set_option linter.unusedSimpArgs false
variable {P : Program} {J : Inv} {ρ : Ren}
def sortStr (l : List ByteArray) : Option (List ByteArray) := if l.length < 4611686018427387904 then some (l.mergeSort fun a b => decide (a.data.toList ≤ b.data.toList)) else none
theorem ioOK_sortStr (L : SlLaysM.n6 P ρ) (hent : ∃ fn, P.funcs[ρ.f 6]? = some fn ∧ fn.body.isSome = true ∧ (fn.name == "runtime.NumGoroutine") = false) :
    IoOK P J (ρ.f 6) ⟨.str, fun _ l gs => match gs with
      | [] => sortStr l
      | _ => none⟩ := by
  refine ⟨hent, fun k B F0 v l gs l' hB hF0 hob hG hf => ?_⟩
  dsimp only at hf hob l'
  cases gs with
  | cons g gr => cases hf
  | nil =>
  dsimp only at hf
  unfold sortStr at hf
  split at hf
  rotate_left
  · cases hf
  rename_i hcond
  cases hf
  rcases hob with ⟨rfl, rfl⟩ | ⟨b, off, cap, c, t, fr, rfl, h2, h3, h4, h5, h6⟩
  · refine (AnyM.slices_Sort_string_none L none 0 B.w0).mono fun e' w' ⟨q1, q2⟩ => ?_
    subst q2
    refine ⟨q1, ⟨rfl, rfl, rfl, Nat.le_refl _, fun _ _ _ => rfl⟩, .inl ⟨rfl, by simp⟩⟩
  have hbG := hG b rfl
  have hlt : b < B.w0.heap.size := hbG.2
  let ss : List (List UInt8) := l.map fun s => s.data.toList
  have hsl : ss.length = l.length := by simp [ss]
  have henc : ∀ s : ByteArray, encStr s.data.toList = .string s := fun s => by
    unfold encStr
    congr 1
  have hcell : ∀ i (hi : i < l.length), c[off + i]? = some (.string l[i]) := fun i hi => by
    obtain ⟨cs, e1, e2, e3⟩ := h6 i hi
    have := e2 0 (by show 0 < 1; omega)
    rw [show Kd.sz .str = 1 from rfl, Nat.mul_one, Nat.add_zero] at this
    rw [this, show cs = _ from e3]; rfl
  have h4 : off + cap ≤ c.size := by
    have := h4
    rw [show Kd.sz .str = 1 from rfl, Nat.mul_one] at this
    exact this
  have hH : Holds encStr B.w0 b off ss.toArray := fun j hj => by
    have hj' : j < l.length := by simpa [ss] using hj
    refine ⟨?_, ?_⟩
    · unfold World.cell?
      rw [h2]
      dsimp only
      rw [hcell j hj', getElem!_pos ss.toArray j hj]
      simp only [List.getElem_toArray, ss, List.getElem_map, henc]
      rfl
    · unfold World.frozen?
      rw [h2]
      exact h3 (off + j) (by omega)
  have hcall := AnyM.slices_Sort_string L b off cap ss B.w0 hH hlt (by rw [hsl]; exact hcond)
  rw [hsl] at hcall
  refine hcall.mono fun e' w' ⟨q1, n, os, hw⟩ => ?_
  have hl' : (l.mergeSort fun a b => decide (a.data.toList ≤ b.data.toList)).length = l.length := List.length_mergeSort _
  have hmap : (ss.mergeSort fun x y => decide (x ≤ y)) = (l.mergeSort fun a b => decide (a.data.toList ≤ b.data.toList)).map fun s => s.data.toList := by
    rw [List.map_mergeSort (r := fun a b : ByteArray => decide (a.data.toList ≤ b.data.toList)) (s := fun x y : List UInt8 => decide (x ≤ y)) (f := fun s : ByteArray => s.data.toList) (fun a _ b _ => rfl)]
  rw [hmap] at hw
  have hbl : w'.heap[b]? = some (.cells (Go.Sort.putCells encStr off ((l.mergeSort fun a b => decide (a.data.toList ≤ b.data.toList)).map fun s => s.data.toList).toArray c) t fr) := by
    rw [hw]
    unfold grow putRow mapBlock
    dsimp only
    rw [Array.getElem?_append_left (by simp [Sort.ahead]; exact hlt), Array.getElem?_modify, if_pos rfl]
    show Option.map _ (B.w0.heap[b]?) = _
    rw [h2]; rfl
  refine ⟨q1, ⟨by rw [hw]; rfl, by rw [hw]; rfl, by rw [hw]; rfl, by rw [hw]; simp [grow, Sort.ahead, Base.n0], fun b' hb' hn => ?_⟩, .inr ⟨b, off, cap, _, t, fr, by rw [hl'], hbl, ?_, ?_, by rw [hl']; exact h5, fun i hi => ?_⟩⟩
  · have hne : b ≠ b' := fun q => hn (q ▸ hbG.1)
    rw [hw]
    unfold grow putRow mapBlock
    dsimp only
    rw [Array.getElem?_append_left (by simp [Sort.ahead]; exact hb'), Array.getElem?_modify, if_neg hne]
    rfl
  · simp only [Go.Sort.putCells, Array.size_mapIdx]; exact h3
  · simp only [Go.Sort.putCells, Array.size_mapIdx]
    rw [show Kd.sz .str = 1 from rfl, Nat.mul_one]; exact h4
  · refine ⟨[.string (l.mergeSort fun a b => decide (a.data.toList ≤ b.data.toList))[i]], rfl, fun j hj => ?_, rfl⟩
    have hj : j = 0 := by
      have : j < 1 := hj
      omega
    subst hj
    rw [show Kd.sz .str = 1 from rfl, Nat.mul_one, Nat.add_zero]
    have hi2 : i < l.length := by rw [hl'] at hi; exact hi
    have h5' : l.length ≤ cap := h5
    have hin : off + i < c.size := by omega
    simp only [Go.Sort.putCells, Array.getElem?_mapIdx]
    rw [Array.getElem?_eq_getElem hin]
    simp only [Option.map_some, List.size_toArray, List.length_map]
    rw [if_pos ⟨by omega, by rw [hl']; omega⟩, show off + i - off = i by omega, getElem!_pos _ _ (by simpa using hi)]
    simp only [List.getElem_toArray, List.getElem_map, henc]
    rfl
end Go.Proofs.YtbliiipcjbmbiaaGreatDoor.Ev
