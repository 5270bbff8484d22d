/- The small evaluator is right: the head of a loop (this session's own). No condition. -/
import Derived.Test.YtocgdpnealaoeaaDoorEvL
namespace Go.Proofs.YtocgdpnealaoeaaDoor.Ev
open Go.RowKit
set_option linter.unusedVariables false
set_option linter.unusedSimpArgs false

variable {P : Program} {J : Inv} {Γ : Ctx} {B : Base} {C : LBase} {βs : List Value} {st : St} {a : Act} {w w' : World} {obs obs1 obs2 : List Ob} {wr : Nat → Bool}

theorem TVs.length : ∀ {tvs : List TV} {vs : List Value}, TVs P J B βs obs w tvs vs → tvs.length = vs.length
  | [], vs, h => by rw [show vs = _ from h]; rfl
  | tv :: tvs, vs, ⟨v, r, e, _, h⟩ => by subst e; simp [TVs.length h]

/-! ### the cells of the open variables -/
def TVleaf (tv : TV) : Prop := ∀ k x, tv = .val k x → k.isAgg = false
theorem TVleaf.of {r : RV} (h : leafOK r) : TVleaf r.tv := by
  intro k x e
  cases r <;> cases e
  exact h

theorem TVs.of_cells : ∀ {cs : List RV} {l : List Value}, cs.length = l.length → (∀ (i : Nat) (h : i < cs.length), RVRep w (Fz B βs obs w) βs cs[i] (l.getD i undef)) → TVs P J B βs obs w (cs.map RV.tv) l
  | [], [], _, _ => rfl
  | [], _ :: _, h, _ => by cases h
  | _ :: _, [], h, _ => by cases h
  | c :: cs, v :: l, hl, h => ⟨v, l, rfl, (h 0 (by simp)).toTV, TVs.of_cells (by simpa using hl) fun i hi => by
    have := h (i + 1) (by simpa using hi)
    rw [List.getElem_cons_succ] at this
    simpa using this⟩
theorem TVs.append_ {l1 l2 : List TV} {v1 v2 : List Value} (h1 : TVs P J B βs obs w l1 v1) (h2 : TVs P J B βs obs w l2 v2) : TVs P J B βs obs w (l1 ++ l2) (v1 ++ v2) := TVs.append h1 h2

theorem srcObs_rep (h : Rep' P J B βs obs w) : ∀ {cnts : List (Nat × Nat)} {tvs : List TV}, srcObs cnts obs = some tvs →
    ∃ vs, TVs P J B βs obs w tvs vs ∧ BoxVals w βs cnts vs ∧ (∀ tv ∈ tvs, TVleaf tv) ∧ ∀ p ∈ cnts, ∃ cs, getOb obs p.1 = .box cs
  | [], tvs, he => by cases he; exact ⟨[], rfl, rfl, by simp, by simp⟩
  | (L, n) :: r, tvs, he => by
    simp only [srcObs] at he
    split at he
    · rename_i cs ho
      split at he
      · rename_i hn
        split at he
        · rename_i b hb
          cases he
          obtain ⟨q, q1, q2, q3, q4⟩ := srcObs_rep h hb
          have hL := getOb_lt ho rfl
          have hr := h.obs.rep L (by rw [h.obs.len]; exact hL)
          rw [ho] at hr
          obtain ⟨bl, c, t, fr, e1, e2, e3, e4, e5⟩ := hr
          have hn : cs.length = n := Nat.eq_of_beq_eq_true hn
          refine ⟨c.toList ++ q, TVs.append (TVs.of_cells (by simp [e4]) fun i hi => ?_) q1, ⟨bl, c, t, fr, q, rfl, e1, e2, e3, by rw [e4]; exact hn, q2⟩, ?_, ?_⟩
          · have := (e5 i hi).2
            simpa using this
          · intro tv ht
            rcases List.mem_append.1 ht with ht | ht
            · obtain ⟨rv, hrv, rfl⟩ := List.mem_map.1 ht
              obtain ⟨i, hi, rfl⟩ := List.getElem_of_mem hrv
              exact TVleaf.of (e5 i hi).1
            · exact q3 tv ht
          · intro p hp
            rcases List.mem_cons.1 hp with rfl | hp
            · exact ⟨cs, ho⟩
            · exact q4 p hp
        · cases he
      · cases he
    · cases he

theorem openSet_rep {F' : Nat → Prop} {βs' : List Value} : ∀ {cnts : List (Nat × Nat)} {vs : List Value} {rvs : List RV} {obs : List Ob}, BoxVals w βs cnts vs → rvs.length = vs.length →
    (∀ (i : Nat) (h1 : i < rvs.length), leafOK rvs[i] ∧ RVRep w F' βs' rvs[i] (vs.getD i undef)) → (cnts.map (·.1)).Nodup → (∀ p ∈ cnts, p.1 < obs.length ∧ bv βs' p.1 = bv βs p.1) →
    (openSet cnts rvs obs).length = obs.length ∧ (∀ L, L ∉ cnts.map (·.1) → getOb (openSet cnts rvs obs) L = getOb obs L) ∧ ∀ L ∈ cnts.map (·.1), ∃ cs, getOb (openSet cnts rvs obs) L = .box cs ∧ ObRep w F' βs' (bv βs' L) (.box cs)
  | [], vs, rvs, obs, _, _, _, _, _ => ⟨rfl, fun _ _ => rfl, by simp⟩
  | (L, n) :: r, vs, rvs, obs, ⟨b, c, t, fr, q, hvs, e1, e2, e3, e4, e5⟩, hl, hr, hnd, hp => by
    have e4 : c.size = n := e4
    subst hvs
    have hl' : rvs.length = n + q.length := by simpa [e4] using hl
    have hnd' := List.nodup_cons.1 (show (L :: r.map (·.1)).Nodup from hnd)
    have hL := hp (L, n) (List.mem_cons_self ..)
    obtain ⟨g1, g2, g3⟩ := openSet_rep (obs := obs.set L (.box (rvs.take n))) (rvs := rvs.drop n) e5 (by simp; omega) (fun i hi => by
      have hi' : n + i < rvs.length := by simp at hi; omega
      have := hr (n + i) hi'
      rw [List.getElem_drop]
      refine ⟨this.1, ?_⟩
      have e : (c.toList ++ q).getD (n + i) undef = q.getD i undef := by
        simp only [List.getD_eq_getElem?_getD]
        rw [List.getElem?_append_right (by simp [e4])]
        simp [e4]
      rw [e] at this; exact this.2) hnd'.2 (fun p hp' => by
        have := hp p (List.mem_cons_of_mem _ hp')
        simpa using this)
    have hset : ∀ M, getOb (obs.set L (.box (rvs.take n))) M = if L = M then .box (rvs.take n) else getOb obs M := fun M => getOb_set hL.1
    refine ⟨by rw [show openSet ((L, n) :: r) rvs obs = openSet r (rvs.drop n) (obs.set L (.box (rvs.take n))) from rfl, g1]; simp, fun M hM => ?_, fun M hM => ?_⟩
    · have hM : M ∉ L :: r.map (·.1) := hM
      rw [show openSet ((L, n) :: r) rvs obs = openSet r (rvs.drop n) (obs.set L (.box (rvs.take n))) from rfl, g2 M (fun q => hM (List.mem_cons_of_mem _ q)), hset, if_neg]
      rintro rfl
      exact hM (List.mem_cons_self ..)
    · have hM : M ∈ L :: r.map (·.1) := hM
      rw [show openSet ((L, n) :: r) rvs obs = openSet r (rvs.drop n) (obs.set L (.box (rvs.take n))) from rfl]
      rcases List.mem_cons.1 hM with rfl | hM
      · refine ⟨rvs.take n, by rw [g2 M hnd'.1, hset, if_pos rfl], b, c, t, fr, hL.2.trans e1, e2, e3, by simp; omega, fun i hi => ?_⟩
        have hi' : i < n := by simp at hi; omega
        have := hr i (by omega)
        rw [List.getElem_take]
        refine ⟨this.1, ?_⟩
        have e : (c.toList ++ q).getD i undef = c.getD i undef := by
          simp only [List.getD_eq_getElem?_getD]
          rw [List.getElem?_append_left (by simp [e4, hi'])]
          simp
        rw [e] at this; exact this.2
      · exact g3 M hM

/-! ### what is packed, one at a time -/
theorem pack_cons {s : SV} {ss : List SV} {tvs : List TV} {x : XT (s :: ss)} (h : pack (s :: ss) tvs obs = some x) : ∃ tv r, tvs = tv :: r ∧ (∃ y, packOne s tv obs = some y) ∧ ∃ z, pack ss r obs = some z := by
  cases ss with
  | nil =>
    cases tvs with
    | nil => simp [pack] at h
    | cons tv r =>
      cases r with
      | nil => exact ⟨tv, [], rfl, ⟨x, h⟩, (), rfl⟩
      | cons _ _ => simp [pack] at h
  | cons t ss =>
    cases tvs with
    | nil => simp [pack] at h
    | cons tv r =>
      simp only [pack] at h
      split at h
      · rename_i y ys hy hys
        exact ⟨tv, r, rfl, ⟨y, hy⟩, ys, hys⟩
      · cases h
theorem newVals_nil (ss : List SV) : newVals ss [] = [] := by
  cases ss with
  | nil => rfl
  | cons s ss => cases s <;> rfl
theorem srcLabels_sub {tv : TV} {tvs : List TV} {L : Nat} (h : L ∈ srcLabels tvs) : L ∈ srcLabels (tv :: tvs) := by
  cases tv <;> simp only [srcLabels] <;> first | exact h | exact List.mem_cons_of_mem _ h

/-- the blocks behind the new labels are those of the labels that were left -/
theorem newVals_own : ∀ {ss : List SV} {tvs : List TV} {vs : List Value}, TVs P J B βs obs w tvs vs → (∃ x, pack ss tvs obs = some x) →
    ∀ v ∈ newVals ss vs, ∀ b, bOf v = some b → ∃ L ∈ srcLabels tvs, L < βs.length ∧ bOf (bv βs L) = some b
  | [], tvs, vs, _, _ => by simp [newVals]
  | s :: ss, tvs, vs, ht, ⟨x, hx⟩ => by
    obtain ⟨tv, r, rfl, ⟨y, hy⟩, hz⟩ := pack_cons hx
    obtain ⟨v, q, rfl, h1, h2⟩ := ht
    have ih := newVals_own h2 hz
    have ih' : ∀ v ∈ newVals ss q, ∀ b, bOf v = some b → ∃ L ∈ srcLabels (tv :: r), L < βs.length ∧ bOf (bv βs L) = some b := fun v hv b hb => by
      obtain ⟨L, hL, q1⟩ := ih v hv b hb
      exact ⟨L, srcLabels_sub hL, q1⟩
    have one : ∀ b, (∀ k, s ≠ .val k) → bOf v = some b → ∃ L ∈ srcLabels (tv :: r), L < βs.length ∧ bOf (bv βs L) = some b := fun b hs hb => by
      cases tv with
      | arr L =>
        obtain ⟨hL, rfl⟩ := h1
        exact ⟨L, List.mem_cons_self .., hL, hb⟩
      | map L =>
        obtain ⟨hL, rfl⟩ := h1
        exact ⟨L, List.mem_cons_self .., hL, hb⟩
      | nilk e =>
        rw [show v = _ from h1] at hb; cases hb
      | _ => cases s <;> simp [packOne] at hy <;> exact absurd rfl (hs _)
    cases s with
    | val k => exact ih'
    | arr e =>
      intro v' hv b hb
      rcases List.mem_cons.1 (show v' ∈ v :: newVals ss q from hv) with rfl | hv
      · exact one b (by simp) hb
      · exact ih' v' hv b hb
    | map kk kv =>
      intro v' hv b hb
      rcases List.mem_cons.1 (show v' ∈ v :: newVals ss q from hv) with rfl | hv
      · exact one b (by simp) hb
      · exact ih' v' hv b hb

theorem newVals_inj (h : Rep' P J B βs obs w) : ∀ {ss : List SV} {tvs : List TV} {vs : List Value}, TVs P J B βs obs w tvs vs → (∃ x, pack ss tvs obs = some x) → (srcLabels tvs).Nodup → (∀ L ∈ srcLabels tvs, (getOb obs L).live = true) →
    ∀ i j b, bOf ((newVals ss vs).getD i undef) = some b → bOf ((newVals ss vs).getD j undef) = some b → i = j
  | [], tvs, vs, _, _, _, _ => by intro i j b h1; simp [newVals, undef, bOf] at h1
  | s :: ss, tvs, vs, ht, ⟨x, hx⟩, hnd, hlv => by
    obtain ⟨tv, r, rfl, ⟨y, hy⟩, hz⟩ := pack_cons hx
    obtain ⟨v, q, rfl, h1, h2⟩ := ht
    have hnd' : (srcLabels r).Nodup := by
      cases tv <;> simp only [srcLabels] at hnd <;> first | exact hnd | exact (List.nodup_cons.1 hnd).2
    have ih := newVals_inj h h2 hz hnd' (fun L hL => hlv L (srcLabels_sub hL))
    have one : (∀ k, s ≠ .val k) → ∀ b, bOf v = some b → ∀ j, bOf ((newVals ss q).getD j undef) = some b → False := fun hs b hb j hj => by
      have hmem : (newVals ss q).getD j undef ∈ newVals ss q := by
        rcases Nat.lt_or_ge j (newVals ss q).length with q1 | q1
        · simp only [List.getD_eq_getElem?_getD, List.getElem?_eq_getElem q1, Option.getD_some]
          exact List.getElem_mem q1
        · simp only [List.getD_eq_getElem?_getD, List.getElem?_eq_none q1, Option.getD_none] at hj
          simp [undef, bOf] at hj
      obtain ⟨M, hM, hMb, hMv⟩ := newVals_own h2 hz _ hmem b hj
      have key : ∀ L, v = bv βs L → L < βs.length → srcLabels (tv :: r) = L :: srcLabels r → False := fun L hv hL hsl => by
        rw [hsl] at hnd
        have := h.inj L M b hL hMb (hlv L (by rw [hsl]; exact List.mem_cons_self ..)) (hlv M (srcLabels_sub hM)) (hv ▸ hb) hMv
        exact (List.nodup_cons.1 hnd).1 (this ▸ hM)
      cases tv with
      | arr L => exact key L h1.2 h1.1 rfl
      | map L => exact key L h1.2 h1.1 rfl
      | nilk e => rw [show v = _ from h1] at hb; cases hb
      | _ => cases s <;> simp [packOne] at hy <;> exact absurd rfl (hs _)
    cases s with
    | val k => exact ih
    | arr e =>
      intro i j b hi hj
      cases i <;> cases j
      · rfl
      · exact (one (by simp) b hi _ hj).elim
      · exact (one (by simp) b hj _ hi).elim
      · exact congrArg (· + 1) (ih _ _ b hi hj)
    | map kk kv =>
      intro i j b hi hj
      cases i <;> cases j
      · rfl
      · exact (one (by simp) b hi _ hj).elim
      · exact (one (by simp) b hj _ hi).elim
      · exact congrArg (· + 1) (ih _ _ b hi hj)

theorem packOne_leaf {s : SV} {tv : TV} {x : s.T} {obs' : List Ob} (h : packOne s tv obs = some x) (hl : TVleaf tv) : leafOK (unpackOne s x obs').1 := by
  cases s with
  | val k =>
    simp only [packOne] at h
    split at h
    · rename_i k' x'
      obtain ⟨e, _⟩ := Kd.cast_some h
      subst e
      exact hl _ _ rfl
    · obtain ⟨e, _⟩ := Kd.cast_some h
      subst e
      rfl
    · cases h
  | arr e => trivial
  | map kk kv => trivial
theorem pack_leaf : ∀ {ss : List SV} {tvs : List TV} {x : XT ss} {obs' : List Ob}, pack ss tvs obs = some x → ∀ (i : Nat) (h1 : i < (unpack ss x obs').1.length) (h2 : i < tvs.length), TVleaf tvs[i] → leafOK (unpack ss x obs').1[i]
  | [], [], x, obs', hx => fun i h1 => by cases h1
  | [s], [tv], x, obs', hx => fun i h1 h2 hl => by
    have : i = 0 := by simp at h2; omega
    subst this
    exact packOne_leaf (obs' := obs') hx hl
  | s :: t :: r, tv :: tvs, x, obs', hx => by
    simp only [pack] at hx
    split at hx
    · rename_i y ys hy hys
      cases hx
      intro i h1 h2 hl
      cases i with
      | zero => exact packOne_leaf (obs' := obs') hy hl
      | succ i => exact pack_leaf (obs' := (unpackOne s y obs').2) hys i (by simpa [unpack] using h1) (by simpa using h2) hl
    · cases hx
  | [], _ :: _, _, _, hx => by simp [pack] at hx
  | [_], [], _, _, hx => by simp [pack] at hx
  | _ :: _ :: _, [], _, _, hx => by simp [pack] at hx
  | [_], _ :: _ :: _, _, _, hx => by simp [pack] at hx

end Go.Proofs.YtocgdpnealaoeaaDoor.Ev
