/- The small evaluator is right: regions that draw their order (this session's own). No condition. -/
import Derived.Test.YtocgdpnealaoeaaDoorEvY
namespace Go.Proofs.YtocgdpnealaoeaaDoor.Ev
open Go.RowKit
set_option linter.unusedVariables false
set_option linter.unusedSimpArgs false

variable {P : Program} {J : Inv} {Γ : Ctx} {B : Base} {C : LBase} {βs : List Value} {st : St} {a : Act} {w w' : World}

theorem evalOp0_congr {wr : Nat → Bool} {k : Nat} {o : Oper} {ρ ρ' : Operand → TV} {obs : List Ob} (h : ∀ x ∈ o.op.operands.toList, ρ x = ρ' x) : evalOp0 Γ wr k o ρ obs = evalOp0 Γ wr k o ρ' obs := by
  unfold evalOp0
  cases ho : o.op with
  | call c =>
    rw [ho] at h
    have ha : c.args.toList.map ρ = c.args.toList.map ρ' := List.map_congr_left fun x hx => h x (by
      simp only [Op.operands, Call.operands, Array.toList_append]
      exact List.mem_append_right _ hx)
    simp only [ha]
    cases hc : c.callee with
    | value f =>
      have hf : ρ f = ρ' f := h f (by simp [Op.operands, Call.operands, hc])
      simp only [hf]
    | _ => rfl
  | buildSlice t len ps =>
    rw [ho] at h
    have : (ps.toList.map fun p => (p.1, ρ p.2)) = ps.toList.map fun p => (p.1, ρ' p.2) := List.map_congr_left fun p hp => by
      rw [h p.2 (by simp only [Op.operands, List.toList_toArray]; exact List.mem_map.2 ⟨p, hp, rfl⟩)]
    simp only [this]
  | build t ps =>
    rw [ho] at h
    have : (ps.toList.map fun p => (p.1, ρ p.2)) = ps.toList.map fun p => (p.1, ρ' p.2) := List.map_congr_left fun p hp => by
      rw [h p.2 (by simp only [Op.operands, List.toList_toArray]; exact List.mem_map.2 ⟨p, hp, rfl⟩)]
    simp only [this]
  | makeFunc fn first caps =>
    rw [ho] at h
    have : caps.toList.map ρ = caps.toList.map ρ' := List.map_congr_left fun x hx => h x (by
      simp only [Op.operands, Array.toList_append]
      exact List.mem_append_right _ hx)
    simp only [this]
  | slice t x lo hi mx =>
    rw [ho] at h
    have h0 : ρ x = ρ' x := h x (by simp [Op.operands])
    have h1 : lo.map ρ = lo.map ρ' := by
      cases lo with
      | none => rfl
      | some y => simp only [Option.map_some]; rw [h y (by simp [Op.operands])]
    have h2 : hi.map ρ = hi.map ρ' := by
      cases hi with
      | none => rfl
      | some y => simp only [Option.map_some]; rw [h y (by simp [Op.operands])]
    have h3 : mx.map ρ = mx.map ρ' := by
      cases mx with
      | none => rfl
      | some y => simp only [Option.map_some]; rw [h y (by simp [Op.operands])]
    simp only [h0, h1, h2, h3]
  | makeMap t r =>
    rw [ho] at h
    have h1 : r.map ρ = r.map ρ' := by
      cases r with
      | none => rfl
      | some y => simp only [Option.map_some]; rw [h y (by simp [Op.operands])]
    simp only [h1]
  | _ => first
    | rfl
    | (rw [ho] at h
       simp only [Op.operands] at h
       simp_all)

theorem evalOp_congr {wr : Nat → Bool} {k : Nat} {o : Oper} {ρ ρ' : Operand → TV} {obs : List Ob} (h : ∀ x ∈ o.op.operands.toList, ρ x = ρ' x) : evalOp Γ wr k o ρ obs = evalOp Γ wr k o ρ' obs := by
  unfold evalOp
  rw [evalOp0_congr h]

/-! ### what an evaluation in the order of the text comes to -/
structure SameSt (st st1 : St) : Prop where
  get : ∀ s, st1.get s = st.get s
  obs : st1.obs = st.obs
  n : st1.n = st.n
  lk : st1.lk = st.lk
  op : st1.op = st.op
theorem SameSt.refl (st : St) : SameSt st st := ⟨fun _ => rfl, rfl, rfl, rfl, rfl⟩
def wantedS (ops : Array Oper) (o : Oper) (st : St) : Option Bool :=
  match o.guard with
  | none => some true
  | some (j, want) => match dstOf ops j with
    | none => none
    | some s => match st.get s with
      | .val .bool g => some (g == want)
      | .skipped => some false
      | _ => none
inductive DrawRun (al : Bool) (Γ : Ctx) (k : Nat) (ops : Array Oper) : List Oper → St → St → Prop
  | nil (st : St) : DrawRun al Γ k ops [] st st
  | run (o : Oper) (l : List Oper) (st st1 st' : St) (tv : TV) (obs' : List Ob) : SameSt st st1 → wantedS ops o st = some true → (evalF al Γ k o st1.ev st1.obs).To (tv, obs') → obs'.length = st1.obs.length →
      DrawRun al Γ k ops l (st1.put o.dst tv) st' → DrawRun al Γ k ops (o :: l) st st'
  | skip (o : Oper) (l : List Oper) (st st1 st' : St) : SameSt st st1 → wantedS ops o st = some false → DrawRun al Γ k ops l (st1.put o.dst .skipped) st' → DrawRun al Γ k ops (o :: l) st st'

theorem retag_same {s : Nat} {tv : TV} (h : st.get s = tv) : SameSt st (st.put (some s) tv) :=
  ⟨fun i => by
    rw [get_put]
    split
    · rename_i q; rw [← q.2]; exact h.symm
    · rfl, rfl, rfl, rfl, rfl⟩

theorem draw_run {al : Bool} {R : Type} {k : Nat} {ops : Array Oper} {K : St → Option R} {r : R} : ∀ {l : List Oper} {st : St}, execDraw al Γ k ops l K st = some r → ∃ st', DrawRun al Γ k ops l st st' ∧ K st' = some r
  | [], st, h => ⟨st, .nil st, h⟩
  | o :: l, st, h => by
    have go : ∀ {st1 : St}, SameSt st st1 → wantedS ops o st = some true → (Res.runS (evalF al Γ k o st1.ev st1.obs) fun tv obs => match Nat.beq obs.length st1.obs.length with
        | true => execDraw al Γ k ops l K (st1.put o.dst tv)
        | false => none) = some r → ∃ st', DrawRun al Γ k ops (o :: l) st st' ∧ K st' = some r := by
      intro st1 hs hw he
      rw [Res.runS_eq] at he
      obtain ⟨⟨tv, obs'⟩, ht, hr⟩ := Res.run_some he
      simp only at hr
      split at hr
      · rename_i hb
        obtain ⟨st', h1, h2⟩ := draw_run hr
        exact ⟨st', .run o l st st1 st' tv obs' hs hw ht (Nat.eq_of_beq_eq_true hb) h1, h2⟩
      · cases hr
    have skip : ∀ {st1 : St}, SameSt st st1 → wantedS ops o st = some false → execDraw al Γ k ops l K (st1.put o.dst .skipped) = some r → ∃ st', DrawRun al Γ k ops (o :: l) st st' ∧ K st' = some r := by
      intro st1 hs hw he
      obtain ⟨st', h1, h2⟩ := draw_run he
      exact ⟨st', .skip o l st st1 st' hs hw h1, h2⟩
    rw [execDraw] at h
    split at h
    · rename_i hg
      exact go (SameSt.refl st) (by simp [wantedS, hg]) h
    · rename_i j want hg
      split at h
      · cases h
      · rename_i s hs
        split at h
        · rename_i g hgv
          have hwant : wantedS ops o st = some (g == want) := by simp only [wantedS, hg, hs, hgv]
          cases g with
          | true =>
            cases want with
            | true => exact go (retag_same hgv) hwant h
            | false => exact skip (retag_same hgv) hwant h
          | false =>
            cases want with
            | true => exact skip (retag_same hgv) hwant h
            | false => exact go (retag_same hgv) hwant h
        · rename_i hgv
          exact skip (SameSt.refl st) (by simp only [wantedS, hg, hs, hgv]) h
        · cases h

theorem put_other {d : Option Nat} {tv : TV} {t : Nat} (h : d ≠ some t) : (st.put d tv).get t = st.get t := by
  cases d with
  | none => rfl
  | some d =>
    rw [get_put, if_neg]
    rintro ⟨_, q⟩
    exact h (congrArg some q)

/-- what is not written stays -/
theorem draw_rest {al : Bool} {k : Nat} {ops : Array Oper} : ∀ {l : List Oper} {st st' : St}, DrawRun al Γ k ops l st st' → (∀ t, (∀ o ∈ l, o.dst ≠ some t) → st'.get t = st.get t) ∧ st'.obs = st.obs ∧ st'.n = st.n ∧ st'.lk = st.lk ∧ st'.op = st.op := by
  intro l st st' h
  induction h with
  | nil st => exact ⟨fun _ _ => rfl, rfl, rfl, rfl, rfl⟩
  | run o l st st1 st' tv obs' hs hw he hl hr ih =>
    obtain ⟨i1, i2, i3, i4, i5⟩ := ih
    have hp : (st1.put o.dst tv).obs = st1.obs ∧ (st1.put o.dst tv).n = st1.n ∧ (st1.put o.dst tv).lk = st1.lk ∧ (st1.put o.dst tv).op = st1.op := by cases o.dst <;> exact ⟨rfl, rfl, rfl, rfl⟩
    refine ⟨fun t ht => ?_, i2.trans (hp.1.trans hs.obs), i3.trans (hp.2.1.trans hs.n), i4.trans (hp.2.2.1.trans hs.lk), i5.trans (hp.2.2.2.trans hs.op)⟩
    rw [i1 t (fun q hq => ht q (List.mem_cons_of_mem _ hq)), put_other (ht o (List.mem_cons_self ..)), hs.get]
  | skip o l st st1 st' hs hw hr ih =>
    obtain ⟨i1, i2, i3, i4, i5⟩ := ih
    have hp : (st1.put o.dst .skipped).obs = st1.obs ∧ (st1.put o.dst .skipped).n = st1.n ∧ (st1.put o.dst .skipped).lk = st1.lk ∧ (st1.put o.dst .skipped).op = st1.op := by cases o.dst <;> exact ⟨rfl, rfl, rfl, rfl⟩
    refine ⟨fun t ht => ?_, i2.trans (hp.1.trans hs.obs), i3.trans (hp.2.1.trans hs.n), i4.trans (hp.2.2.1.trans hs.lk), i5.trans (hp.2.2.2.trans hs.op)⟩
    rw [i1 t (fun q hq => ht q (List.mem_cons_of_mem _ hq)), put_other (ht o (List.mem_cons_self ..)), hs.get]

/-- one of the operations: where it stood, and what came of it -/
theorem draw_at {al : Bool} {k : Nat} {ops : Array Oper} : ∀ {l : List Oper} {st st' : St}, DrawRun al Γ k ops l st st' → ∀ (i : Nat) (o : Oper), l[i]? = some o →
    ∃ sti : St, (∀ t, (∀ (j : Nat) (q : Oper), j < i → l[j]? = some q → q.dst ≠ some t) → sti.get t = st.get t) ∧ (∀ t, (∀ (j : Nat) (q : Oper), i ≤ j → l[j]? = some q → q.dst ≠ some t) → sti.get t = st'.get t) ∧ sti.obs = st.obs ∧
      ∃ tv, ((wantedS ops o sti = some true ∧ ∃ obs', (evalF al Γ k o sti.ev sti.obs).To (tv, obs') ∧ obs'.length = sti.obs.length) ∨ (wantedS ops o sti = some false ∧ tv = .skipped)) ∧
        ∀ d, o.dst = some d → d < st.n → (∀ (j : Nat) (q : Oper), i < j → l[j]? = some q → q.dst ≠ some d) → st'.get d = tv := by
  intro l st st' h
  induction h with
  | nil st => intro i o hi; cases hi
  | run o l st st1 st' tv obs' hs hw he hl hr ih =>
    have hp : (st1.put o.dst tv).obs = st1.obs ∧ (st1.put o.dst tv).n = st1.n := by cases o.dst <;> exact ⟨rfl, rfl⟩
    obtain ⟨r1, r2, r3, r4, r5⟩ := draw_rest hr
    intro i q hi
    cases i with
    | zero =>
      cases hi
      have hww : wantedS ops o st1 = some true := by rw [← hw]; unfold wantedS; simp only [hs.get]
      refine ⟨st1, fun t _ => hs.get t, fun t ht => ?_, hs.obs, tv, .inl ⟨hww, obs', he, hl⟩, fun d hd hdn hlt => ?_⟩
      · rw [r1 t (fun q hq => by
          obtain ⟨j, hj, rfl⟩ := List.getElem_of_mem hq
          exact ht (j + 1) _ (Nat.zero_le _) (by simp [hj])), put_other (ht 0 o (Nat.le_refl _) rfl)]
      · rw [r1 d (fun q hq => by
          obtain ⟨j, hj, rfl⟩ := List.getElem_of_mem hq
          exact hlt (j + 1) _ (Nat.succ_pos _) (by simp [hj])), hd, get_put, if_pos ⟨by rw [hs.n]; exact hdn, rfl⟩]
    | succ i =>
      obtain ⟨sti, g1, g2, g3, tv', g4, g5⟩ := ih i q (by simpa using hi)
      refine ⟨sti, fun t ht => ?_, fun t ht => g2 t fun j q' hj hq => ht (j + 1) q' (Nat.succ_le_succ hj) (by simpa using hq), g3.trans (hp.1.trans hs.obs), tv', g4, fun d hd hdn hlt => g5 d hd (by rw [hp.2, hs.n]; exact hdn) fun j q' hj hq => hlt (j + 1) q' (Nat.succ_lt_succ hj) (by simpa using hq)⟩
      rw [g1 t fun j q' hj hq => ht (j + 1) q' (Nat.succ_lt_succ hj) (by simpa using hq), put_other (ht 0 o (Nat.succ_pos _) rfl), hs.get]
  | skip o l st st1 st' hs hw hr ih =>
    have hp : (st1.put o.dst .skipped).obs = st1.obs ∧ (st1.put o.dst .skipped).n = st1.n := by cases o.dst <;> exact ⟨rfl, rfl⟩
    obtain ⟨r1, r2, r3, r4, r5⟩ := draw_rest hr
    intro i q hi
    cases i with
    | zero =>
      cases hi
      have hww : wantedS ops o st1 = some false := by rw [← hw]; unfold wantedS; simp only [hs.get]
      refine ⟨st1, fun t _ => hs.get t, fun t ht => ?_, hs.obs, .skipped, .inr ⟨hww, rfl⟩, fun d hd hdn hlt => ?_⟩
      · rw [r1 t (fun q hq => by
          obtain ⟨j, hj, rfl⟩ := List.getElem_of_mem hq
          exact ht (j + 1) _ (Nat.zero_le _) (by simp [hj])), put_other (ht 0 o (Nat.le_refl _) rfl)]
      · rw [r1 d (fun q hq => by
          obtain ⟨j, hj, rfl⟩ := List.getElem_of_mem hq
          exact hlt (j + 1) _ (Nat.succ_pos _) (by simp [hj])), hd, get_put, if_pos ⟨by rw [hs.n]; exact hdn, rfl⟩]
    | succ i =>
      obtain ⟨sti, g1, g2, g3, tv', g4, g5⟩ := ih i q (by simpa using hi)
      refine ⟨sti, fun t ht => ?_, fun t ht => g2 t fun j q' hj hq => ht (j + 1) q' (Nat.succ_le_succ hj) (by simpa using hq), g3.trans (hp.1.trans hs.obs), tv', g4, fun d hd hdn hlt => g5 d hd (by rw [hp.2, hs.n]; exact hdn) fun j q' hj hq => hlt (j + 1) q' (Nat.succ_lt_succ hj) (by simpa using hq)⟩
      rw [g1 t fun j q' hj hq => ht (j + 1) q' (Nat.succ_lt_succ hj) (by simpa using hq), put_other (ht 0 o (Nat.succ_pos _) rfl), hs.get]

/-! ### the conditions -/
theorem binder_mem {o : Oper} {j : Nat} (h : binder o j = true) : ∃ e ∈ o.after.toList, Region.binds .any e = true ∧ e.on = j := by
  obtain ⟨e, he, hb⟩ := List.any_eq_true.1 h
  rw [Bool.and_eq_true] at hb
  exact ⟨e, he, hb.1, Nat.eq_of_beq_eq_true hb.2⟩
theorem slotOK_get {ops : List Oper} {i t : Nat} {o : Oper} : ∀ {l : List Oper} {j0 : Nat}, slotOK ops i o t j0 l = true → ∀ (j : Nat) (q : Oper), l[j]? = some q → q.dst = some t → j0 + j < i ∧ binder o (j0 + j) = true
  | [], j0, _, j, q, hq, _ => by cases hq
  | p :: r, j0, h, j, q, hq, hd => by
    simp only [slotOK, Bool.and_eq_true] at h
    cases j with
    | zero =>
      cases hq
      have h1 := h.1
      rw [hd] at h1
      simp only [Nat.beq_refl, Bool.not_true, Bool.false_or, Bool.and_eq_true] at h1
      exact ⟨by simpa [Nat.blt_eq] using h1.1, h1.2⟩
    | succ j =>
      have := slotOK_get h.2 j q (by simpa using hq) hd
      rw [Nat.add_assoc, Nat.add_comm 1 j] at this
      exact this
theorem dstOK_get {d i : Nat} : ∀ {l : List Oper} {j0 : Nat}, dstOK d i j0 l = true → ∀ (j : Nat) (q : Oper), l[j]? = some q → i ≠ j0 + j → q.dst ≠ some d
  | [], j0, _, j, q, hq, _ => by cases hq
  | p :: r, j0, h, j, q, hq, hne => by
    simp only [dstOK, Bool.and_eq_true] at h
    cases j with
    | zero =>
      cases hq
      intro hd
      have h1 := h.1
      rw [hd] at h1
      simp only [Nat.beq_refl, Bool.not_true, Bool.or_false] at h1
      exact hne (Nat.eq_of_beq_eq_true h1)
    | succ j =>
      refine dstOK_get h.2 j q (by simpa using hq) ?_
      rw [Nat.add_assoc, Nat.add_comm 1 j]; exact hne
theorem drawOK_get {sto : Bool} {ops : Array Oper} {front : List Oper} {n : Nat} : ∀ {l : List Oper} {i0 : Nat}, drawOK sto ops front n i0 l = true → ∀ (i : Nat) (o : Oper), l[i]? = some o → operOK sto ops front n (i0 + i) o = true
  | [], i0, _, i, o, hi => by cases hi
  | p :: r, i0, h, i, o, hi => by
    simp only [drawOK, Bool.and_eq_true] at h
    cases i with
    | zero => cases hi; exact h.1
    | succ i =>
      have := drawOK_get h.2 i o (by simpa using hi)
      rw [Nat.add_assoc, Nat.add_comm 1 i] at this
      exact this
theorem lowOK_get : ∀ {l : List Oper} {i0 : Nat}, lowOK i0 l = true → ∀ (i : Nat) (o : Oper), l[i]? = some o → ∀ e ∈ o.after.toList, Region.binds .any e = true → e.on < i0 + i
  | [], i0, _, i, o, hi => by cases hi
  | p :: r, i0, h, i, o, hi => by
    simp only [lowOK, Bool.and_eq_true] at h
    cases i with
    | zero =>
      cases hi
      intro e he hb
      have := List.all_eq_true.1 h.1 e he
      rw [hb] at this
      simpa [Nat.blt_eq] using this
    | succ i =>
      have := lowOK_get h.2 i o (by simpa using hi)
      rw [Nat.add_assoc, Nat.add_comm 1 i] at this
      exact this
theorem chainOK_get {mid : Oper} : ∀ {l : List Oper} {j0 : Nat}, chainOK mid j0 l = true → ∀ (j : Nat), j < l.length → (∃ (j' : Nat) (q : Oper), j < j' ∧ l[j']? = some q ∧ binder q (j0 + j) = true) ∨ binder mid (j0 + j) = true
  | [], j0, _, j, hj => by cases hj
  | p :: r, j0, h, j, hj => by
    simp only [chainOK, Bool.and_eq_true, Bool.or_eq_true] at h
    cases j with
    | zero =>
      rcases h.1 with q | q
      · obtain ⟨x, hx, hb⟩ := List.any_eq_true.1 q
        obtain ⟨i, hi, rfl⟩ := List.getElem_of_mem hx
        exact .inl ⟨i + 1, r[i], Nat.succ_pos _, by simp [hi], hb⟩
      · exact .inr q
    | succ j =>
      rcases chainOK_get h.2 j (by simpa using hj) with ⟨j', q, h1, h2, h3⟩ | h1
      · rw [Nat.add_assoc, Nat.add_comm 1 j] at h3
        exact .inl ⟨j' + 1, q, Nat.succ_lt_succ h1, by simpa using h2, h3⟩
      · rw [Nat.add_assoc, Nat.add_comm 1 j] at h1
        exact .inr h1
theorem tailOK_get : ∀ {l : List Oper} {i0 : Nat}, tailOK i0 l = true → ∀ (i : Nat) (o : Oper), l[i]? = some o → binder o (i0 + i - 1) = true
  | [], i0, _, i, o, hi => by cases hi
  | p :: r, i0, h, i, o, hi => by
    simp only [tailOK, Bool.and_eq_true] at h
    cases i with
    | zero => cases hi; exact h.1
    | succ i =>
      have := tailOK_get h.2 i o (by simpa using hi)
      rw [Nat.add_assoc, Nat.add_comm 1 i] at this
      exact this

/-- the rest comes in the order of the text -/
theorem tail_sched {ops : Array Oper} {Q : Exit → Act → World → Prop} {m : Nat} (hlow : ∀ i (o : Oper), ops[i]? = some o → ∀ e ∈ o.after.toList, Region.binds .any e = true → e.on < i)
    (htail : ∀ i (o : Oper), m < i → ops[i]? = some o → binder o (i - 1) = true) : ∀ (fuel i : Nat) (listed : Array Bool) (a : Act) (w : World), m ≤ i → listed.size = ops.size → (∀ j, j < i → j < ops.size → listed.getD j true = true) →
      (∀ j, i ≤ j → j < ops.size → listed.getD j true = false) → ops.size ≤ i + fuel → wpList P ops Q (ops.toList.drop i) a w → wpAny P .any ops Q fuel listed a w := by
  have rdy : ∀ (i : Nat) (listed : Array Bool), m ≤ i → listed.size = ops.size → (∀ j, i ≤ j → j < ops.size → listed.getD j true = false) → (∀ j, j < i → j < ops.size → listed.getD j true = true) → ∀ i' ∈ Region.ready .any ops listed, i' = i := by
    intro i listed hmi hsz hun hl i' hi'
    unfold Region.ready at hi'
    rw [List.mem_filter, List.mem_range, Bool.and_eq_true] at hi'
    obtain ⟨h1, h2, h3⟩ := hi'
    have hu : listed.getD i' true = false := by simpa using h2
    have hge : i ≤ i' := by
      rcases Nat.lt_or_ge i' i with q | q
      · rw [hl i' q h1] at hu; cases hu
      · exact q
    rcases Nat.lt_or_ge i i' with q | q
    · exfalso
      have ho : ops[i']? = some ops[i'] := by simp [h1]
      rw [ho] at h3
      simp only [Option.map_some, Option.getD_some] at h3
      rw [← Array.all_toList] at h3
      obtain ⟨e, em, eb, eo⟩ := binder_mem (htail i' _ (by omega) ho)
      have := List.all_eq_true.1 h3 e em
      rw [eb, eo] at this
      simp only [Bool.not_true, Bool.false_or] at this
      have hf := hun (i' - 1) (by omega) (by omega)
      have hs : i' - 1 < listed.size := by omega
      simp only [Array.getD_eq_getD_getElem?, Array.getElem?_eq_getElem hs, Option.getD_some] at hf this
      rw [hf] at this; cases this
    · omega
  intro fuel
  induction fuel with
  | zero =>
    intro i listed a w hmi hsz hl hun hf hw
    have hd : ops.toList.drop i = [] := List.drop_eq_nil_of_le (by simpa using hf)
    rw [hd] at hw
    refine ⟨?_, hw⟩
    refine List.eq_nil_iff_forall_not_mem.2 fun i' hi' => ?_
    have := rdy i listed hmi hsz hun hl i' hi'
    unfold Region.ready at hi'
    rw [List.mem_filter, List.mem_range] at hi'
    omega
  | succ fuel ih =>
    intro i listed a w hmi hsz hl hun hf hw
    refine ⟨fun hr => ?_, fun i' hi' => ?_⟩
    · rcases Nat.lt_or_ge i ops.size with q | q
      · exfalso
        have ho : ops[i]? = some ops[i] := by simp [q]
        have : i ∈ Region.ready .any ops listed := by
          unfold Region.ready
          refine List.mem_filter.2 ⟨List.mem_range.2 q, ?_⟩
          rw [hun i (Nat.le_refl _) q, ho]
          simp only [Bool.not_false, Bool.true_and, Option.map_some, Option.getD_some]
          rw [← Array.all_toList]
          refine List.all_eq_true.2 fun e hm => ?_
          cases hbd : Region.binds .any e with
          | false => simp
          | true =>
            have h3 := hlow i _ ho e hm hbd
            have h4 := hl e.on h3 (by omega)
            have h5 : e.on < listed.size := by omega
            simp only [Array.getD_eq_getD_getElem?, Array.getElem?_eq_getElem h5, Option.getD_some] at h4 ⊢
            simp [h4]
        rw [hr] at this; cases this
      · have hd : ops.toList.drop i = [] := List.drop_eq_nil_of_le (by simpa using q)
        rw [hd] at hw
        exact hw
    · have hii := rdy i listed hmi hsz hun hl i' hi'
      subst hii
      unfold Region.ready at hi'
      rw [List.mem_filter, List.mem_range] at hi'
      have hin := hi'.1
      have ho : ops[i']? = some ops[i'] := by simp [hin]
      have hd : ops.toList.drop i' = ops[i'] :: ops.toList.drop (i' + 1) := by
        rw [List.drop_eq_getElem_cons (by simpa using hin)]; simp
      rw [hd] at hw
      have nxt : ∀ a w, wpList P ops Q (ops.toList.drop (i' + 1)) a w → wpAny P .any ops Q fuel (listed.setIfInBounds i' true) a w := fun a w h => by
        refine ih (i' + 1) _ a w (by omega) (by simpa using hsz) (fun j hj hjs => ?_) (fun j hj hjs => ?_) (by omega) h
        · simp only [Array.getD_eq_getD_getElem?, Array.getElem?_setIfInBounds]
          by_cases e : i' = j
          · subst e
            have : i' < listed.size := by omega
            simp [this]
          · rw [if_neg e]
            simpa only [Array.getD_eq_getD_getElem?] using hl j (by omega) hjs
        · simp only [Array.getD_eq_getD_getElem?, Array.getElem?_setIfInBounds]
          rw [if_neg (by omega)]
          simpa only [Array.getD_eq_getD_getElem?] using hun j (by omega) hjs
      unfold wpOp
      rw [ho]
      simp only
      unfold wpList at hw
      split
      · rename_i hwt
        rw [if_pos hwt] at hw
        exact hw.imp (Oper.wp_mono nxt) id
      · rename_i hwt
        rw [if_neg hwt] at hw
        exact nxt _ _ hw

theorem obs_same {obs obs' : List Ob} (h : ∀ L, L < obs.length → getOb obs' L = getOb obs L) (hl : obs'.length = obs.length) : obs' = obs := by
  refine List.ext_getElem hl fun i h1 h2 => ?_
  have := h i h2
  unfold getOb at this
  simpa [h1, h2] using this

theorem filter_lt {α : Type} {p q : α → Bool} {i : α} : ∀ {l : List α}, i ∈ l → q i = true → p i = false → (∀ j ∈ l, p j = true → q j = true) → (l.filter p).length < (l.filter q).length
  | [], h, _, _, _ => by cases h
  | x :: r, h, hq, hp, hs => by
    have le : ∀ (r : List α), (∀ j ∈ r, p j = true → q j = true) → (r.filter p).length ≤ (r.filter q).length := by
      intro r
      induction r with
      | nil => intro _; exact Nat.le_refl _
      | cons y r ih =>
        intro hs
        have i1 := ih fun j hj => hs j (List.mem_cons_of_mem _ hj)
        simp only [List.filter_cons]
        cases hpy : p y with
        | true => rw [hs y (List.mem_cons_self ..) hpy]; simpa using i1
        | false =>
          cases q y
          · simpa using i1
          · simp; omega
    have l1 := le r fun j hj => hs j (List.mem_cons_of_mem _ hj)
    simp only [List.filter_cons]
    rcases List.mem_cons.1 h with rfl | h
    · rw [hq, hp]; simp; omega
    · have i1 := filter_lt h hq hp fun j hj => hs j (List.mem_cons_of_mem _ hj)
      cases hpx : p x with
      | true => rw [hs x (List.mem_cons_self ..) hpx]; simpa using i1
      | false =>
        cases q x
        · simpa using i1
        · simp; omega

variable {R : Type}
open Classical in
/-- ████ whatever the order ████ -/
theorem execDraw_ok (hΓ : CtxOK P J Γ) (hB : B.Ok J) {k : Nat} {K : St → Option R} {r : R} {Q : Exit → Act → World → Prop} {ops : Array Oper} {st0 : St} {id : Nat}
    (hK : ∀ βs st' a' w', Rep P J B C βs st' a' w' → SameLocks st0 st' → K st' = some r → Q .normal a' w')
    {m : Nat} (hk : ∀ o ∈ ops.toList, ∀ d, o.dst = some d → ¬ C.kept d) (h : Rep P J B C βs st a w) (hl : SameLocks st0 st) (hoks : drawsOK false ops st.n m = true)
    (he : execDraw false Γ k ops (ops.toList.take m) (fun st1 => execOps Γ k ops (ops.toList.drop m) K st1) st = some r) :
    (Code.region id ops true).wp P Q a w := by
  obtain ⟨stN, hrun, hKN⟩ := draw_run he
  obtain ⟨z1, z2, z3, z4, z5⟩ := draw_rest hrun
  simp only [drawsOK, Bool.and_eq_true] at hoks
  obtain ⟨⟨hok, hlowB⟩, hrest⟩ := hoks
  have hops : ∀ i (o : Oper), i < m → ops[i]? = some o → (ops.toList.take m)[i]? = some o := fun i o him hi => by rw [List.getElem?_take, if_pos him, Array.getElem?_toList]; exact hi
  have hopsR : ∀ i (o : Oper), (ops.toList.take m)[i]? = some o → i < m ∧ ops[i]? = some o := fun i o hi => by
    rw [List.getElem?_take] at hi
    split at hi
    · rename_i q
      rw [Array.getElem?_toList] at hi
      exact ⟨q, hi⟩
    · cases hi
  have hok' : ∀ i (o : Oper), i < m → ops[i]? = some o → operOK false ops (ops.toList.take m) st.n i o = true := fun i o him hi => by
    have := drawOK_get hok i o (hops i o him hi)
    rwa [Nat.zero_add] at this
  have hlow : ∀ i (o : Oper), ops[i]? = some o → ∀ e ∈ o.after.toList, Region.binds .any e = true → e.on < i := fun i o hi e he hb => by
    have := lowOK_get hlowB i o (by rw [Array.getElem?_toList]; exact hi) e he hb
    rwa [Nat.zero_add] at this
  have hmid : ∀ (o : Oper), ops[m]? = some o → chainOK o 0 (ops.toList.take m) = true ∧ tailOK (m + 1) (ops.toList.drop (m + 1)) = true := fun o ho => by
    have hm : m < ops.size := by
      rcases Nat.lt_or_ge m ops.size with q | q
      · exact q
      · rw [Array.getElem?_eq_none q] at ho; cases ho
    have hd : ops.toList.drop m = o :: ops.toList.drop (m + 1) := by
      rw [List.drop_eq_getElem_cons (by simpa using hm)]
      rw [Array.getElem?_eq_getElem hm] at ho
      cases ho
      simp
    rw [hd] at hrest
    simpa only [Bool.and_eq_true] using hrest
  have htail : ∀ i (o : Oper), m < i → ops[i]? = some o → binder o (i - 1) = true := fun i o hmi hi => by
    have his : i < ops.size := by
      rcases Nat.lt_or_ge i ops.size with q | q
      · exact q
      · rw [Array.getElem?_eq_none q] at hi; cases hi
    have hm : m < ops.size := by omega
    have := tailOK_get (hmid ops[m] (by simp [hm])).2 (i - (m + 1)) o (by
      rw [List.getElem?_drop, Array.getElem?_toList]
      have : m + 1 + (i - (m + 1)) = i := by omega
      rw [this]; exact hi)
    have e : m + 1 + (i - (m + 1)) - 1 = i - 1 := by omega
    rwa [e] at this
  refine wp_region_any hΓ.mixed ?_
  -- what holds when some have been carried out
  have key : ∀ (fuel : Nat) (listed : Array Bool) (βs : List Value) (stL : St) (a : Act) (w : World), Rep P J B C βs stL a w → SameLocks st0 stL → stL.obs = st.obs → stL.n = st.n →
      (∀ t, stL.get t = if ∃ (i : Nat) (o : Oper), i < m ∧ ops[i]? = some o ∧ listed.getD i true = true ∧ o.dst = some t then stN.get t else st.get t) →
      listed.size = ops.size → (∀ j, m ≤ j → j < ops.size → listed.getD j true = false) →
      (∀ (j : Nat) (o : Oper), ops[j]? = some o → listed.getD j true = true → ∀ e ∈ o.after.toList, Region.binds .any e = true → listed.getD e.on true = true) →
      ((List.range ops.size).filter fun i => !listed.getD i true).length ≤ fuel → wpAny P .any ops Q fuel listed a w := by
    intro fuel
    induction fuel with
    | zero => 
      intro listed βs stL a w h1 hl1 ho1 hn1 hg hsz hback hdn hfu
      have hall : ∀ i, i < ops.size → listed.getD i true = true := fun i hi => by
        have h0 : (List.range ops.size).filter (fun i => !listed.getD i true) = [] := List.eq_nil_of_length_eq_zero (Nat.le_zero.1 hfu)
        have := List.filter_eq_nil_iff.1 h0 i (List.mem_range.2 hi)
        simpa using this
      have hms : ops.size ≤ m := by
        rcases Nat.lt_or_ge m ops.size with q | q
        · have := hback m (Nat.le_refl _) q
          rw [hall m q] at this; cases this
        · exact q
      refine tail_sched hlow htail 0 m listed a w (Nat.le_refl _) hsz (fun j _ hjs => hall j hjs) (fun j hj hjs => by omega) (by omega) ?_
      have hsame : Rep P J B C βs stN a w ∧ SameLocks st0 stN := ⟨h1.congr (fun t => by
          rw [hg t]
          split
          · rfl
          · rename_i q
            refine z1 t fun o ho hd => ?_
            obtain ⟨i, hi, rfl⟩ := List.getElem_of_mem ho
            have := hopsR i _ (List.getElem?_eq_getElem hi)
            exact q ⟨i, _, this.1, this.2, hall i (by
              rcases Nat.lt_or_ge i ops.size with q | q
              · exact q
              · rw [Array.getElem?_eq_none q] at this; cases this.2), hd⟩) (z2.trans ho1.symm) (z3.trans hn1.symm) (z4.trans (by rw [← hl.1.symm, hl1.1])) (z5.trans (by rw [← hl.2.1.symm, hl1.2.1])), z4.trans hl.1, z5.trans hl.2.1, z3.trans hl.2.2⟩
      exact execOps_ok hΓ hB (st0 := st0) hK (ops.toList.drop m) βs stN a w (fun o ho => hk o (List.mem_of_mem_drop ho)) hsame.1 hsame.2 hKN
    | succ fuel ih =>
      intro listed βs stL a w h1 hl1 ho1 hn1 hg hsz hback hdn hfu
      by_cases hall : ∀ i, i < m → i < ops.size → listed.getD i true = true
      · -- the front is done
        have hsame : Rep P J B C βs stN a w ∧ SameLocks st0 stN := ⟨h1.congr (fun t => by
          rw [hg t]
          split
          · rfl
          · rename_i q
            refine z1 t fun o ho hd => ?_
            obtain ⟨i, hi, rfl⟩ := List.getElem_of_mem ho
            have := hopsR i _ (List.getElem?_eq_getElem hi)
            exact q ⟨i, _, this.1, this.2, hall i this.1 (by
              rcases Nat.lt_or_ge i ops.size with q | q
              · exact q
              · rw [Array.getElem?_eq_none q] at this; cases this.2), hd⟩) (z2.trans ho1.symm) (z3.trans hn1.symm) (z4.trans (by rw [← hl.1.symm, hl1.1])) (z5.trans (by rw [← hl.2.1.symm, hl1.2.1])), z4.trans hl.1, z5.trans hl.2.1, z3.trans hl.2.2⟩
        have hw := execOps_ok hΓ hB (st0 := st0) hK (ops.toList.drop m) βs stN a w (fun o ho => hk o (List.mem_of_mem_drop ho)) hsame.1 hsame.2 hKN
        refine tail_sched hlow htail (fuel + 1) m listed a w (Nat.le_refl _) hsz hall hback ?_ hw
        have hcnt : ((List.range ops.size).filter fun i => !listed.getD i true).length = ops.size - m := by
          have : (List.range ops.size).filter (fun i => !listed.getD i true) = (List.range ops.size).filter (fun i => decide (m ≤ i)) := List.filter_congr fun i hi => by
            have his := List.mem_range.1 hi
            by_cases q : m ≤ i
            · rw [hback i q his]; simp [q]
            · rw [hall i (by omega) his]; simp; omega
          rw [this]
          have hcount : ∀ n : Nat, ((List.range n).filter (fun i => decide (m ≤ i))).length = n - m := by
            intro n
            induction n with
            | zero => simp
            | succ n ihn =>
              rw [List.range_succ, List.filter_append, List.length_append, ihn]
              by_cases q : m ≤ n
              · simp [q]; omega
              · simp [q]; omega
          exact hcount _
        omega
      refine ⟨fun hr => ?_, fun i hi => ?_⟩
      · -- nothing is ready: all are listed
        exfalso
        refine hall ?_
        intro i
        induction i using Nat.strongRecOn with
        | _ i ihi =>
          intro him hi
          cases hb : listed.getD i true with
          | true => rfl
          | false =>
            exfalso
            have hoi : ops[i]? = some ops[i] := by simp [hi]
            have : i ∈ Region.ready .any ops listed := by
              unfold Region.ready
              refine List.mem_filter.2 ⟨List.mem_range.2 hi, ?_⟩
              rw [hb, hoi]
              simp only [Bool.not_false, Bool.true_and, Option.map_some, Option.getD_some]
              rw [← Array.all_toList]
              refine List.all_eq_true.2 fun e hm => ?_
              cases hbd : Region.binds .any e with
              | false => simp
              | true =>
                simp only [Bool.not_true, Bool.false_or]
                have h3 : e.on < i := hlow i _ hoi e hm hbd
                have h4 := ihi e.on h3 (Nat.lt_trans h3 him) (Nat.lt_trans h3 hi)
                have h5 : e.on < listed.size := by omega
                simp only [Array.getD_eq_getD_getElem?, Array.getElem?_eq_getElem h5, Option.getD_some] at h4 ⊢
                exact h4
            rw [hr] at this
            cases this
      · -- one that is ready
        unfold Region.ready at hi
        rw [List.mem_filter] at hi
        obtain ⟨hi0, hi1⟩ := hi
        have hin : i < ops.size := List.mem_range.1 hi0
        rw [Bool.and_eq_true] at hi1
        have hunl : listed.getD i true = false := by simpa using hi1.1
        have hoi : ops[i]? = some ops[i] := by simp [hin]
        have haft := hi1.2
        rw [hoi] at haft
        simp only [Option.map_some, Option.getD_some] at haft
        rw [← Array.all_toList] at haft
        obtain ⟨o, hod⟩ : ∃ o, o = ops[i] := ⟨_, rfl⟩
        rw [← hod] at hoi haft
        have hafter : ∀ e ∈ o.after.toList, Region.binds .any e = true → listed.getD e.on true = true := fun e em eb => by
          have := List.all_eq_true.1 haft e em
          rw [eb] at this
          simp only [Bool.not_true, Bool.false_or] at this
          have h5 : e.on < listed.size := by
            have := hlow i o hoi e em eb
            omega
          simp only [Array.getD_eq_getD_getElem?, Array.getElem?_eq_getElem h5, Option.getD_some] at this ⊢
          exact this
        have him : i < m := by
          rcases Nat.lt_or_ge i m with q | q
          · exact q
          · exfalso
            rcases Nat.lt_or_ge m i with q' | q'
            · obtain ⟨e, em, eb, eo⟩ := binder_mem (htail i o q' hoi)
              have := hafter e em eb
              rw [eo, hback (i - 1) (by omega) (by omega)] at this
              cases this
            · have : i = m := by omega
              subst this
              have hch := (hmid o hoi).1
              refine hall ?_
              have down : ∀ (d j : Nat), i - j ≤ d → j < i → j < ops.size → listed.getD j true = true := by
                intro d
                induction d with
                | zero => intro j h1 h2; omega
                | succ d ihd =>
                  intro j h1 h2 h3
                  have hjl : j < (ops.toList.take i).length := by simp; omega
                  rcases chainOK_get hch j hjl with ⟨j', q, q1, q2, q3⟩ | q1
                  · rw [Nat.zero_add] at q3
                    have hq := hopsR j' q q2
                    have hq' : j' < ops.size := by
                      rcases Nat.lt_or_ge j' ops.size with z | z
                      · exact z
                      · rw [Array.getElem?_eq_none z] at hq; cases hq.2
                    have := ihd j' (by omega) hq.1 hq'
                    obtain ⟨e, em, eb, eo⟩ := binder_mem q3
                    have := hdn j' q hq.2 this e em eb
                    rwa [eo] at this
                  · rw [Nat.zero_add] at q1
                    obtain ⟨e, em, eb, eo⟩ := binder_mem q1
                    have := hafter e em eb
                    rwa [eo] at this
              exact fun j hj hjs => down (i - j) j (Nat.le_refl _) hj hjs
        have hop := hok' i o him hoi
        simp only [operOK, Bool.and_eq_true] at hop
        obtain ⟨hdst, hlook⟩ := hop
        obtain ⟨d, hd⟩ : ∃ d, o.dst = some d := by
          cases hdd : o.dst with
          | none => rw [hdd] at hdst; simp at hdst
          | some d => exact ⟨d, rfl⟩
        rw [hd] at hdst
        simp only [Bool.and_eq_true] at hdst
        have hdn' : d < st.n := by simpa [Nat.blt_eq] using hdst.1
        have huniq : ∀ (j : Nat) (q : Oper), (ops.toList.take m)[j]? = some q → i ≠ j → q.dst ≠ some d := fun j q hq hne => dstOK_get hdst.2 j q hq (by rw [Nat.zero_add]; exact hne)
        obtain ⟨sti, f1, f2, f3, tv, f4, f5⟩ := draw_at hrun i o (hops i o him hoi)
        have hNd : stN.get d = tv := f5 d hd hdn' fun j q hj hq => huniq j q hq (Nat.ne_of_lt hj)
        -- what it looks at
        have hsee : ∀ t ∈ o.looksAt ops, stL.get t = sti.get t := fun t ht => by
          have hs := List.all_eq_true.1 hlook t ht
          have hs' : ∀ (j : Nat) (q : Oper), (ops.toList.take m)[j]? = some q → q.dst = some t → j < i ∧ listed.getD j true = true := fun j q hq hqd => by
            have := slotOK_get hs j q hq hqd
            rw [Nat.zero_add] at this
            obtain ⟨e, em, eb, eo⟩ := binder_mem this.2
            have := List.all_eq_true.1 haft e em
            rw [eb, eo] at this
            simp only [Bool.not_true, Bool.false_or] at this
            refine ⟨‹j < i ∧ _›.1, ?_⟩
            have hjs : j < listed.size := by have := ‹j < i ∧ _›.1; omega
            simp only [Array.getD_eq_getD_getElem?, Array.getElem?_eq_getElem hjs, Option.getD_some] at this ⊢
            exact this
          rw [hg t]
          split
          · rename_i q
            refine (f2 t fun j' q' hj' hq' hqd' => ?_).symm
            have := (hs' j' q' hq' hqd').1
            omega
          · rename_i q
            refine (f1 t fun j' q' hj' hq' hqd' => q ?_).symm
            exact ⟨j', q', (hopsR j' q' hq').1, (hopsR j' q' hq').2, (hs' j' q' hq' hqd').2, hqd'⟩
        have hoper : ∀ x ∈ o.op.operands.toList, stL.ev x = sti.ev x := fun x hx => by
          cases x with
          | tmp t =>
            refine hsee t ?_
            unfold Oper.looksAt
            refine List.mem_append_left _ (List.mem_filterMap.2 ⟨_, hx, rfl⟩)
          | _ => rfl
        -- behind it
        have next : ∀ {v : Value} {w1 : World} {βs1 : List Value}, Rep P J B C βs1 (stL.put o.dst tv) (a.put o.dst v) w1 → wpAny P .any ops Q fuel (listed.setIfInBounds i true) (a.put o.dst v) w1 := fun {v w1 βs1} hrep => by
          have hsetF : ∀ j, i ≠ j → (listed.setIfInBounds i true).getD j true = listed.getD j true := fun j hne => by
            simp only [Array.getD_eq_getD_getElem?, Array.getElem?_setIfInBounds, if_neg hne]
          refine ih _ βs1 _ _ w1 hrep hl1.put (by cases o.dst <;> exact ho1) (by cases o.dst <;> exact hn1) (fun t => ?_) (by simpa using hsz) (fun j hj hjs => by rw [hsetF j (by omega)]; exact hback j hj hjs) (fun j q hq hjl e em eb => ?_) ?_
          rotate_left
          · have hjl' : listed.getD e.on true = true := by
              by_cases ej : i = j
              · subst ej
                rw [hoi] at hq
                cases hq
                exact hafter e em eb
              · rw [hsetF j ej] at hjl
                exact hdn j q hq hjl e em eb
            by_cases ee : i = e.on
            · rw [← ee] at hjl' ⊢
              simp [Array.getD_eq_getD_getElem?, show i < listed.size by omega]
            · rw [hsetF _ ee]; exact hjl'
          rotate_left
          · have hset : ∀ j, (listed.setIfInBounds i true).getD j true = true ↔ (j = i ∨ listed.getD j true = true) := fun j => by
              simp only [Array.getD_eq_getD_getElem?, Array.getElem?_setIfInBounds]
              by_cases e : i = j
              · subst e
                simp
                split <;> simp
              · rw [if_neg e]
                constructor
                · exact .inr
                · rintro (q | q)
                  · exact absurd q.symm e
                  · exact q
            rw [hd, get_put]
            by_cases e : d = t
            · subst e
              rw [if_pos ⟨by rw [hn1]; exact hdn', rfl⟩, if_pos ⟨i, o, him, hoi, (hset i).2 (.inl rfl), hd⟩, hNd]
            · rw [if_neg (fun q => e q.2), hg t]
              have : (∃ (j : Nat) (q : Oper), j < m ∧ ops[j]? = some q ∧ (listed.setIfInBounds i true).getD j true = true ∧ q.dst = some t) ↔ ∃ (j : Nat) (q : Oper), j < m ∧ ops[j]? = some q ∧ listed.getD j true = true ∧ q.dst = some t := by
                constructor
                · rintro ⟨j, q, q0, q1, q2, q3⟩
                  rcases (hset j).1 q2 with rfl | q2
                  · rw [hoi] at q1
                    cases q1
                    rw [hd] at q3
                    exact absurd (Option.some.inj q3) e
                  · exact ⟨j, q, q0, q1, q2, q3⟩
                · rintro ⟨j, q, q0, q1, q2, q3⟩
                  exact ⟨j, q, q0, q1, (hset j).2 (.inr q2), q3⟩
              simp only [this]
          · -- one less is not listed
            have hlt : ((List.range ops.size).filter fun j => !(listed.setIfInBounds i true).getD j true).length < ((List.range ops.size).filter fun j => !listed.getD j true).length := by
              refine filter_lt (i := i) hi0 (by simp [hunl]) ?_ fun j hj hb => ?_
              · simp [Array.getD_eq_getD_getElem?, show i < listed.size by omega]
              · simp only [Array.getD_eq_getD_getElem?, Array.getElem?_setIfInBounds] at hb ⊢
                by_cases e : i = j
                · subst e
                  have : i < listed.size := by omega
                  simp [this] at hb
                · rw [if_neg e] at hb; exact hb
            omega
        unfold wpOp
        rw [hoi]
        simp only
        -- the guard
        have hwant : ∀ b, wantedS ops o sti = some b → Region.wanted o (yielded ops a.tmps) = b := fun b hb => by
          unfold wantedS at hb
          split at hb
          · rename_i hgd
            cases hb
            simp [Region.wanted, hgd]
          · rename_i j want hgd
            split at hb
            · cases hb
            · rename_i s hs
              have hsl : s ∈ o.looksAt ops := by
                unfold Oper.looksAt
                refine List.mem_append_right _ ?_
                rw [hgd]
                have hs : (ops[j]?).bind (·.dst) = some s := hs
                simp [hs]
              have hgs := hsee s hsl
              have hv := h1.tmps s
              split at hb
              · rename_i g hgv
                cases hb
                rw [hgs, hgv] at hv
                have hy := yielded_of hs g (rdv_bool hv)
                simp only [Region.wanted, hgd, hy]
                cases g <;> cases want <;> rfl
              · rename_i hgv
                cases hb
                rw [hgs, hgv] at hv
                have hy := yielded_undef hs hv
                simp [Region.wanted, hgd, hy]
              · cases hb
        have hko := hk o (by rw [hod]; simp)
        rcases f4 with ⟨g1, obs', g2, g3⟩ | ⟨g1, rfl⟩
        · rw [if_pos (hwant true g1)]
          refine .inl ?_
          have hev : (evalOp Γ (fun _ => false) k o stL.ev stL.obs).To (tv, obs') := by
            rw [evalOp_congr hoper, ho1, ← f3]; exact (show (evalF false Γ k o sti.ev sti.obs).To (tv, obs') from g2)
          have hop := evalOp_ok hΓ hB (h1.toRep' hB) (h1.inv hB) h1.ev hev
          have fin : ∀ {v : Value} {w' : World}, Behind P J B βs stL.obs (fun _ => false) w tv obs' v w' → wpAny P .any ops Q fuel (listed.setIfInBounds i true) (a.put o.dst v) w' := by
            rintro v w' ⟨βs', hs, ht⟩
            have hob : obs' = stL.obs := obs_same (fun L hL => hs.lock L (by rw [h1.len]; exact hL) rfl) (by rw [g3, f3, ho1])
            have hs' : Step B βs stL.obs stL.wr w βs' obs' w' := ⟨hs.os, hs.tape, hs.output, hs.size, hs.block, hs.blen, hs.bext, hs.len, hs.own, hs.inj, fun L hL _ => hs.lock L hL rfl, hs.rep⟩
            have h2 := (h1.step hB hs').put hko ht
            rw [hob] at h2
            exact next h2
          unfold Oper.wp
          rcases hop with ⟨v, w', hr, hb⟩ | ⟨w', hr, hb⟩ | ⟨f, args, hr, hc⟩
          · rw [hr]; exact fin hb
          · rw [hr]; exact fin hb
          · rw [hr]
            exact hc.mono fun e w' ⟨v, q1, q2⟩ => by subst q1; exact fin q2
        · rw [if_neg (by rw [hwant false g1]; simp)]
          exact next (put_skipped h1 hko)
  have h0 : Rep P J B C βs st a { w with drawn := w.drawn + 1 } := by
    have hid : ∀ {F S : Nat → Prop} {tv : TV} {v : Value}, TVRep P J w F S βs tv v → TVRep P J { w with drawn := w.drawn + 1 } F S βs tv v := fun {F S tv v} q => TVRep.mono (w := w) (F := F) (w' := { w with drawn := w.drawn + 1 }) (fun _ _ => rfl) (Nat.le_refl _) (fun _ q => ⟨q, rfl⟩) (Nat.le_refl _) (fun _ _ => rfl) q
    exact ⟨⟨h.ext.os, h.ext.tape, h.ext.output, h.ext.size, h.ext.block⟩, h.own, h.inj, h.len, fun L hL => ObRep.mono (w := w) (F := Fz B βs st.obs w) (w' := { w with drawn := w.drawn + 1 }) (fun _ q => ⟨q, rfl⟩) (Nat.le_refl _) (fun _ _ => rfl) (fun _ _ _ => rfl) (h.obs L hL), fun s => hid (h.tmps s), h.size, h.defers, h.keep, h.mono, h.msize, h.blen, h.bext, h.lock⟩
  refine key ops.size (Array.replicate ops.size false) βs st a _ h0 hl rfl rfl (fun t => ?_) (by simp) (fun j _ hj => by simp [hj]) (fun j o hj hlj => ?_) ?_
  rotate_left
  · exfalso
    have hi : j < ops.size := by
      rcases Nat.lt_or_ge j ops.size with q | q
      · exact q
      · rw [Array.getElem?_eq_none q] at hj; cases hj
    simp [hi] at hlj
  rotate_left
  · rw [if_neg]
    rintro ⟨i, o, _, q1, q2, _⟩
    have hi : i < ops.size := by
      rcases Nat.lt_or_ge i ops.size with q | q
      · exact q
      · rw [Array.getElem?_eq_none q] at q1; cases q1
    simp [hi] at q2
  · exact Nat.le_trans (List.length_filter_le _ _) (by simp)

end Go.Proofs.YtocgdpnealaoeaaDoor.Ev
