/- The small evaluator is right: a function begins (this session's own). No condition. -/
import Derived.Test.YtocgdpnealaoeaaDoorEvZ
namespace Go.Proofs.YtocgdpnealaoeaaDoor.Ev
open Go.RowKit
set_option linter.unusedVariables false
set_option linter.unusedSimpArgs false

variable {P : Program} {J : Inv} {Γ : Ctx} {B : Base} {C : LBase} {βs : List Value} {st : St} {a : Act} {w w' : World} {obs obs1 obs2 : List Ob}

theorem nodup_flat : ∀ {l : List Value}, (l.flatMap fun v => (bOf v).toList).Nodup → ∀ i j b, bOf (l.getD i undef) = some b → bOf (l.getD j undef) = some b → i = j
  | [], _ => by intro i j b h; simp [undef, bOf] at h
  | v :: l, h => by
    rw [List.flatMap_cons, List.nodup_append] at h
    have ih := nodup_flat h.2.1
    have one : ∀ b j, bOf v = some b → bOf (l.getD j undef) = some b → False := fun b j hv hj => by
      have hj' : j < l.length := by
        rcases Nat.lt_or_ge j l.length with q | q
        · exact q
        · simp [List.getElem?_eq_none q, undef, bOf] at hj
      refine h.2.2 b (by rw [hv]; simp) b (List.mem_flatMap.2 ⟨l[j], List.getElem_mem hj', ?_⟩) rfl
      have : l.getD j undef = l[j] := by simp [hj']
      rw [this] at hj
      rw [hj]; simp
    intro i j b hi hj
    cases i <;> cases j
    · rfl
    · exact (one b _ hi hj).elim
    · exact (one b _ hj hi).elim
    · exact congrArg (· + 1) (ih _ _ b hi hj)

def argVals : List Pm → List Value → List Value
  | .own _ :: ps, v :: vs => v :: argVals ps vs
  | .val _ :: ps, _ :: vs => argVals ps vs
  | .rptr _ :: ps, _ :: vs => argVals ps vs
  | .fnv _ _ :: ps, _ :: vs => argVals ps vs
  | .nil _ :: ps, _ :: vs => argVals ps vs
  | _, _ => []
theorem ownBs_vals : ∀ (ps : List Pm) (vs : List Value), ownBs ps vs = (argVals ps vs).flatMap fun v => (bOf v).toList
  | [], _ => rfl
  | .val _ :: ps, [] => rfl
  | .own _ :: ps, [] => rfl
  | .rptr _ :: ps, [] => rfl
  | .fnv _ _ :: ps, [] => rfl
  | .nil _ :: ps, [] => rfl
  | .val _ :: ps, v :: vs => by simp only [ownBs, argVals]; exact ownBs_vals ps vs
  | .rptr _ :: ps, v :: vs => by simp only [ownBs, argVals]; exact ownBs_vals ps vs
  | .fnv _ _ :: ps, v :: vs => by simp only [ownBs, argVals]; exact ownBs_vals ps vs
  | .nil _ :: ps, v :: vs => by simp only [ownBs, argVals]; exact ownBs_vals ps vs
  | .own _ :: ps, v :: vs => by simp only [ownBs, argVals, List.flatMap_cons]; rw [ownBs_vals ps vs]
def argObs : (ps : List Pm) → PT ps → List Ob
  | [], _ => []
  | .val _ :: ps, x => argObs ps x.2
  | .own e :: ps, x => .arr e x.1 :: argObs ps x.2
  | .rptr _ :: ps, x => argObs ps x.2
  | .fnv _ _ :: ps, x => argObs ps x.2
  | .nil _ :: ps, x => argObs ps x.2

theorem ArgsRep.length {F S : Nat → Prop} : ∀ {ps : List Pm} {x : PT ps} {vals : List Value}, ArgsRep P J w F S ps x vals → vals.length = ps.length
  | [], x, vals, h => by rw [show vals = _ from h]; rfl
  | p :: ps, x, vals, ⟨v, r, e, _, h⟩ => by subst e; simp [h.length]

theorem enterAll_rep {F S : Nat → Prop} : ∀ {ps : List Pm} {x : PT ps} {vals : List Value} {obs : List Ob} {βs βf : List Value}, ArgsRep P J w F S ps x vals → βs.length = obs.length →
    (∀ i, i < (argVals ps vals).length → bv βf (βs.length + i) = (argVals ps vals).getD i undef) → (βs ++ argVals ps vals).length ≤ βf.length →
    (enterAll ps x obs).2 = obs ++ argObs ps x ∧ (argObs ps x).length = (argVals ps vals).length ∧ (enterAll ps x obs).1.length = vals.length ∧
    (∀ i, ∀ tv, (enterAll ps x obs).1[i]? = some tv → TVRep P J w F S βf tv (vals.getD i undef)) ∧
    ∀ (i : Nat) (h1 : i < (argObs ps x).length), ∃ e l, (argObs ps x)[i] = .arr e l ∧ ObRep w F [] ((argVals ps vals).getD i undef) (.arr e l)
  | [], x, vals, obs, βs, βf, h, _, _, _ => by
    rw [show vals = _ from h]
    exact ⟨by simp [enterAll, argObs], rfl, rfl, fun i tv q => by simp [enterAll] at q, fun i q => by cases q⟩
  | p :: ps, x, _, obs, βs, βf, ⟨v, r, rfl, h1, h2⟩, hl, hb, hle => by
    have cons : ∀ {t0 : TV} {l : List TV}, TVRep P J w F S βf t0 v → (∀ i, ∀ tv, l[i]? = some tv → TVRep P J w F S βf tv (r.getD i undef)) → ∀ i, ∀ tv, (t0 :: l)[i]? = some tv → TVRep P J w F S βf tv ((v :: r).getD i undef) := by
      intro t0 l q1 q2 i tv q
      cases i with
      | zero => simp at q; subst q; exact q1
      | succ i => exact q2 i tv (by simpa using q)
    have mono0 : ∀ {tv : TV}, TVRep P J w F S [] tv v → TVRep P J w F S βf tv v := fun {tv} q => q.mono (fun _ _ => rfl) (Nat.le_refl _) (fun _ q => ⟨q, rfl⟩) (by simp) (by simp)
    cases p with
    | val k =>
      obtain ⟨g1, g2, g3, g4, g5⟩ := enterAll_rep (obs := obs) (βf := βf) h2 hl hb hle
      exact ⟨g1, g2, by simpa [enterAll, enterOne] using g3, cons h1 g4, g5⟩
    | rptr k =>
      obtain ⟨g1, g2, g3, g4, g5⟩ := enterAll_rep (obs := obs) (βf := βf) h2 hl hb hle
      exact ⟨g1, g2, by simpa [enterAll, enterOne] using g3, cons (mono0 h1) g4, g5⟩
    | fnv a' r' =>
      obtain ⟨g1, g2, g3, g4, g5⟩ := enterAll_rep (obs := obs) (βf := βf) h2 hl hb hle
      exact ⟨g1, g2, by simpa [enterAll, enterOne] using g3, cons (by exact h1) g4, g5⟩
    | nil e =>
      obtain ⟨g1, g2, g3, g4, g5⟩ := enterAll_rep (obs := obs) (βf := βf) h2 hl hb hle
      exact ⟨g1, g2, by simpa [enterAll, enterOne] using g3, cons h1 g4, g5⟩
    | own e =>
      have hb0 := hb 0 (by simp [argVals])
      obtain ⟨g1, g2, g3, g4, g5⟩ := enterAll_rep (obs := obs ++ [.arr e x.1]) (βs := βs ++ [v]) (βf := βf) h2 (by simp [hl]) (fun i hi => by
        have := hb (i + 1) (by simp [argVals]; omega)
        rw [List.length_append, List.length_singleton, Nat.add_assoc, Nat.add_comm 1 i, this]
        simp [argVals]) (by simpa [argVals] using hle)
      refine ⟨?_, by simp [argObs, argVals, g2], by simpa [enterAll, enterOne] using g3, cons ?_ g4, ?_⟩
      · simp only [enterAll, enterOne, argObs]
        rw [g1, List.append_assoc]; rfl
      · refine ⟨by simp [argVals] at hle; omega, ?_⟩
        rw [Nat.add_zero, hl] at hb0
        rw [hb0]; rfl
      · intro i q1
        cases i with
        | zero => exact ⟨e, x.1, rfl, h1⟩
        | succ i => exact g5 i (by simpa [argObs] using q1)

theorem tget_number : ∀ {l : List TV} {i s : Nat}, tget (number i l) s = if i ≤ s then l.getD (s - i) .dead else .dead
  | [], i, s => by simp [number, tget]
  | tv :: l, i, s => by
    simp only [number]
    rw [tget_cons, tget_number (l := l)]
    by_cases e : i = s
    · subst e; simp
    · rw [if_neg e]
      by_cases q : i ≤ s
      · rw [if_pos q, if_pos (by omega)]
        have : s - i = s - (i + 1) + 1 := by omega
        rw [this]; simp
      · rw [if_neg q, if_neg (by omega)]

def noBase (B : Base) : LBase := { kept := fun _ => False, V := fun _ => undef, Fb := fun _ => False, wb := B.w0, βb := [], ob := [] }
def actOf (vals : List Value) (n : Nat) : Act := { tmps := vals.toArray ++ Array.replicate (n - vals.toArray.size) undef, defers := [] }

theorem start_rep (hB : B.Ok J) {ps : List Pm} {x : PT ps} {vals : List Value} {n : Nat} (hn : ps.length ≤ n) (h : ArgsRep P J B.w0 B.F0 B.S ps x vals) (hnd : (ownBs ps vals).Nodup) (hG : ∀ b ∈ ownBs ps vals, B.G b ∧ b < B.n0) :
    Rep P J B (noBase B) (argVals ps vals) (start ps n x) (actOf vals n) B.w0 := by
  have hF : ∀ b, B.F0 b → Fz B (argVals ps vals) (argObs ps x) B.w0 b ∧ B.w0.heap[b]? = B.w0.heap[b]? := fun b hb => ⟨.inl hb, rfl⟩
  obtain ⟨g1, g2, g3, g4, g5⟩ := enterAll_rep (obs := []) (βs := []) (βf := argVals ps vals) h rfl (fun i _ => by simp [bv]) (by simp)
  rw [List.nil_append] at g1
  rw [ownBs_vals] at hnd hG
  have hobs : (start ps n x).obs = argObs ps x := g1
  have hown : ∀ b, Own (argVals ps vals) (argObs ps x) b → B.G b ∧ b < B.n0 := by
    rintro b ⟨L, hL, _, q⟩
    refine hG b (List.mem_flatMap.2 ⟨(argVals ps vals)[L], List.getElem_mem hL, ?_⟩)
    have : bv (argVals ps vals) L = (argVals ps vals)[L] := by simp [bv, hL]
    rw [this] at q
    rw [q]; simp
  have hvl := h.length
  refine ⟨⟨rfl, rfl, rfl, Nat.le_refl _, fun _ _ _ => rfl⟩, fun b hb => ?_, fun L L' b _ _ _ _ q1 q2 => nodup_flat hnd L L' b q1 q2, by rw [hobs, g2], fun L hL => ?_, fun s => ?_, ?_, rfl, fun s hs => hs.elim, fun b hb => hb.elim, Nat.le_refl _, Nat.zero_le _, fun L hL => (by cases hL), fun L hL => (by cases hL)⟩
  · rw [hobs] at hb
    have := hown b hb
    exact ⟨.inr this.1, this.2⟩
  · rw [hobs]
    obtain ⟨e, l, q1, q2⟩ := g5 L (by rw [g2]; exact hL)
    have : getOb (argObs ps x) L = .arr e l := by
      unfold getOb
      rw [List.getD_eq_getElem?_getD, List.getElem?_eq_getElem (by rw [g2]; exact hL), q1]; rfl
    rw [this]
    exact q2.mono hF (by simp) (by simp) (fun _ _ _ => rfl)
  · show TVRep P J B.w0 _ B.S _ (tget (number 0 (enterAll ps x []).1) s) _
    rw [tget_number, if_pos (Nat.zero_le _), Nat.sub_zero, hobs]
    rcases Nat.lt_or_ge s (enterAll ps x []).1.length with q | q
    · have q1 : (enterAll ps x []).1[s]? = some (enterAll ps x []).1[s] := List.getElem?_eq_getElem q
      have := g4 s _ q1
      have e : (actOf vals n).tmps.getD s undef = vals.getD s undef := by
        have hs : s < vals.length := by omega
        simp [actOf, hs, Array.getElem?_append]
      rw [e]
      have e2 : (enterAll ps x []).1.getD s TV.dead = (enterAll ps x []).1[s] := by simp [q]
      rw [e2]
      exact this.mono (fun _ _ => rfl) (Nat.le_refl _) hF (Nat.le_refl _) (fun _ _ => rfl)
    · have e2 : (enterAll ps x []).1.getD s TV.dead = .dead := by simp [List.getElem?_eq_none q]
      rw [e2]; trivial
  · show (vals.toArray ++ Array.replicate (n - vals.toArray.size) undef).size = n
    simp; omega

end Go.Proofs.YtocgdpnealaoeaaDoor.Ev
