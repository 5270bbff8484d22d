/- The small evaluator's rule for an operation is right, whatever operation it is (this session's own). No condition. -/
import Derived.Test.YtocgdpnealaoeaaDoorEvXa
namespace Go.Proofs.YtocgdpnealaoeaaDoor.Ev
open Go.RowKit
set_option linter.unusedVariables false
set_option linter.unusedSimpArgs false

variable {P : Program} {J : Inv} {Γ : Ctx} {B : Base} {C : LBase} {βs : List Value} {st : St} {a : Act} {w w' : World} {obs obs' obs1 obs2 : List Ob} {wr : Nat → Bool} {tv : TV}

theorem RetsRep.flat_ {F F' : Nat → Prop} : ∀ {rs : List Lm} {y : OT rs} {vs : List Value}, rs.all Lm.flat = true → RetsRep w F rs y vs → RetsRep w F' rs y vs ∧ ownVals rs vs = []
  | [], y, vs, _, h => by
    have h : vs = [] := h
    subst h; exact ⟨rfl, rfl⟩
  | [.val k], y, _, hf, ⟨v, rfl, h⟩ => ⟨⟨v, rfl, RdV.flat_ (by simpa [Lm.flat] using hf) h⟩, rfl⟩
  | [.own e], y, _, hf, ⟨v, rfl, h⟩ => by simp [Lm.flat] at hf
  | .val k :: p :: os, y, _, hf, ⟨v, r, rfl, h1, h2⟩ => by
    rw [List.all_cons, Bool.and_eq_true] at hf
    obtain ⟨g1, g2⟩ := RetsRep.flat_ hf.2 h2
    exact ⟨⟨v, r, rfl, RdV.flat_ hf.1 h1, g1⟩, g2⟩
  | .own e :: p :: os, y, _, hf, ⟨v, r, rfl, h1, h2⟩ => by
    rw [List.all_cons, Bool.and_eq_true] at hf
    cases hf.1

theorem tvOf_rep {F S : Nat → Prop} {rvs : List RV} {vs : List Value} (hl : rvs.length = vs.length) (hr : ∀ (i : Nat) (h1 : i < rvs.length) (h2 : i < vs.length), RVRep w F βs rvs[i] vs[i]) : TVRep P J w F S βs (tvOf rvs) (tupV vs) := by
  have gen : ∀ (rvs : List RV) (vs : List Value), rvs.length = vs.length → (∀ (i : Nat) (h1 : i < rvs.length) (h2 : i < vs.length), RVRep w F βs rvs[i] vs[i]) → TVRep P J w F S βs (.tup rvs) (.tuple vs.toArray) := fun rvs vs hl hr =>
    ⟨_, rfl, by simp [hl], fun i hi => by
      have hi' : i < vs.length := by omega
      simpa [hi'] using hr i hi hi'⟩
  match rvs, vs, hl with
  | [], [], _ => exact gen [] [] rfl (fun i h => by cases h)
  | [r], [v], _ => exact RVRep.toTV (hr 0 (by simp) (by simp))
  | r :: r' :: rs, v :: v' :: vs, hl => exact gen _ _ hl hr

theorem callFn_ok (hΓ : CtxOK P J Γ) (hB : B.Ok J) (h : Rep' P J B βs obs w) (hI : J.I w) {g k : Nat} {F : Fn} (hg : FnOK P J g F) {tvs : List TV} {vals : List Value} (ht : TVs P J B βs obs w tvs vals)
    (hm : moved wr F.ps tvs obs = some obs1) {xs : PT F.ps} (hx : argsOf Γ k F.ps tvs obs obs1 = some xs) (hl : (if F.rs.all Lm.flat then some obs1 else lent wr F.ps tvs obs1) = some obs2) {y : OT F.rs} (hy : F.f k xs = some y) :
    Calls P g vals.toArray w fun e w' => ∃ βs' v, e = .returned v ∧ Step B βs obs wr w βs' (back F.rs y obs2).2 w' ∧ TVRep P J w' (Fz B βs' (back F.rs y obs2).2 w') B.S βs' (tvOf (back F.rs y obs2).1) v := by
  obtain ⟨hd, hlk, hnd, hgs, _, _⟩ := moved_ok h ⟨rfl, fun _ => .inl rfl⟩ (fun _ hb => hb) hm ht (fun _ _ _ => rfl)
  have hrel : FrzRel obs1 obs2 ∧ (∀ M, wr M = false → getOb obs2 M = getOb obs1 M) ∧ (F.rs.all Lm.flat = true ∨ ∃ o1, FrzRel obs1 o1 ∧ lent wr F.ps tvs o1 = some obs2) := by
    split at hl
    · rename_i hf
      cases hl; exact ⟨FrzRel.refl _, fun _ _ => rfl, .inl hf⟩
    · obtain ⟨q1, q2⟩ := lent_rel hl
      exact ⟨q1, q2, .inr ⟨obs1, FrzRel.refl _, hl⟩⟩
  obtain ⟨hrel, hlk2, hlent⟩ := hrel
  let flat := F.rs.all Lm.flat
  let gs := ownBs F.ps vals
  let B2 : Base := ⟨w, fun b => b ∈ gs, CF B βs obs obs1 obs2 flat w⟩
  have hgs' : ∀ b ∈ gs, Own βs obs b ∧ ¬ Own βs obs1 b := hgs
  have hcf : ∀ b, CF B βs obs obs1 obs2 flat w b → b < w.heap.size ∧ b ∉ gs := fun b hb => by
    rcases hb with hb | hb
    · have := h.notOwn hb
      exact ⟨this.1, fun q => this.2 (hgs' b q).1⟩
    · exact ⟨(h.own b (hd.own hb.1)).2, fun q => (hgs' b q).2 hb.1⟩
  have hB2 : B2.Ok J := ⟨hcf, hI, Nat.le_trans hB.gz h.base, fun b hb hq => by
    rcases (h.own b (hgs' b hq).1).1 with q | q
    · have := hB.gz; omega
    · exact hB.gzG b hb q⟩
  have hS : ∀ b, B.S b → B2.S b := fun b hb => ⟨Nat.lt_of_lt_of_le hb.1 h.base, fun q => by
    rcases (h.own b (hgs' b q).1).1 with q1 | q1
    · have := hb.1; omega
    · exact hb.2 q1⟩
  have hFz : ∀ b, Fz B βs obs w b → B2.S b := fun b hb => by
    have := h.notOwn hb
    exact ⟨this.1, fun q => this.2 (hgs' b q).1⟩
  have hFS : ∀ b, Own βs obs1 b → B2.S b := fun b hb => ⟨(h.own b (hd.own hb)).2, fun q => (hgs' b q).2 hb⟩
  have hargs := argsOf_rep (S' := B2.S) (flat := flat) hΓ h hd hrel hS hFz (fun b hb => hb.1) hFS ht hx hlent
  have hcall := hg.ok k B2 vals xs y hB2 hargs hnd (fun b hb => ⟨hb, (h.own b (hgs' b hb).1).2⟩) hy
  refine hcall.mono fun e w' hp => ?_
  obtain ⟨vs, rfl, hret, hnd2, hown2, hext⟩ := hp
  rw [ownRs_vals] at hnd2 hown2 hret
  -- what the results may be read of
  have hfin : ∃ F', RetsRep w' F' F.rs y vs ∧ ∀ b, F' b → (Fz B βs obs w b ∨ (Own βs obs1 b ∧ ¬ Own βs obs2 b) ∨ ((w.heap.size ≤ b ∨ b ∈ gs) ∧ b < w'.heap.size ∧ b ∉ ((ownVals F.rs vs).flatMap fun v => (bOf v).toList))) := by
    cases hfl : flat with
    | true => exact ⟨fun _ => False, (RetsRep.flat_ hfl hret).1, fun b hb => hb.elim⟩
    | false =>
      refine ⟨_, hret, fun b hb => ?_⟩
      rcases hb with (hb | hb) | hb
      · exact .inl hb
      · rcases hb.2 with q | q
        · rw [hfl] at q; cases q
        · exact .inr (.inl ⟨hb.1, q⟩)
      · exact .inr (.inr hb)
  obtain ⟨F', hret', hF'⟩ := hfin
  obtain ⟨o1, o2⟩ := ownObs_rep hret'
  obtain ⟨hstep, hFF⟩ := Rep'.called (wr := wr) h hd hrel (fun M hM hw => (hlk2 M hw).trans (hlk M hM hw)) hgs' hext.os hext.tape hext.output hext.size (fun b hb hn => hext.block b hb hn) o1 hnd2 hown2 o2 hF'
  have hbl : βs.length = obs2.length := by rw [h.obs.len, ← hd.1, ← hrel.1]
  rw [back_obs]
  obtain ⟨b1, b2⟩ := back_rep (obs := obs2) (βs := βs) (βf := βs ++ ownVals F.rs vs) hFF hret' (fun _ _ => .inr hFF) hbl (fun i hi => by
    rw [bv_app, if_neg (by omega), Nat.add_sub_cancel_left]; rfl) (Nat.le_refl _)
  exact ⟨_, _, rfl, hstep, tvOf_rep b1 b2⟩

/-! ### any operation -/
theorem constTV_rep {F S : Nat → Prop} (v : Value) : TVRep P J w F S βs (constTV v) v := by
  unfold constTV
  split
  · exact mk_int _ _
  · exact mk_bool _
  · exact mk_str _
  · rfl
  · exact ⟨rfl, [.pointer none], by simp [valCells, Kd.isAgg], none, rfl, rfl⟩
  · trivial
theorem Rep.ev (h : Rep P J B C βs st a w) (x : Operand) : TR P J B βs st.obs w (st.ev x) (a.eval x) := by
  cases x with
  | tmp t => exact h.tmps t
  | const v => exact constTV_rep v
  | func f => exact ⟨fun L hL => (by cases hL), rfl⟩
  | global g => trivial

theorem TVs.of {ρ : Operand → TV} {ρ' : Operand → Value} (hρ : ∀ x, TR P J B βs obs w (ρ x) (ρ' x)) : ∀ (l : List Operand), TVs P J B βs obs w (l.map ρ) (l.map ρ')
  | [] => rfl
  | x :: r => ⟨_, _, rfl, hρ x, TVs.of hρ r⟩

/-- what is known behind an operation -/

def OpGives (P : Program) (J : Inv) (B : Base) (βs : List Value) (obs : List Ob) (wr : Nat → Bool) (w : World) (s : Sem Next) (tv : TV) (obs' : List Ob) : Prop :=
  (∃ v w', s.run P w = .ok (.value v) w' ∧ Behind P J B βs obs wr w tv obs' v w') ∨
  (∃ w', s.run P w = .ok .skip w' ∧ Behind P J B βs obs wr w tv obs' undef w') ∨
  ∃ f args, s.run P w = .ok (.enter f args) w ∧ Calls P f args w fun e w' => ∃ v, e = .returned v ∧ Behind P J B βs obs wr w tv obs' v w'
theorem Gives.op {s : Sem Value} (h : Gives P J B βs obs wr w s tv obs') : OpGives P J B βs obs wr w (do pure (.value (← s))) tv obs' := by
  obtain ⟨b, v, w', h1, h2, h3⟩ := h
  exact .inl ⟨v, w', by simp [h1], b, h2, h3⟩
theorem GivesU.op {s : Sem Unit} (h : GivesU P J B βs obs wr w s tv obs') : OpGives P J B βs obs wr w (do s; pure .skip) tv obs' := by
  obtain ⟨b, w', h1, h2, h3⟩ := h
  exact .inr (.inl ⟨w', by simp [h1], b, h2, by rw [h3]; rfl⟩)

theorem labelsOf_rep {ρ : Operand → TV} {ρ' : Operand → Value} (hρ : ∀ x, TR P J B βs obs w (ρ x) (ρ' x)) : ∀ {l : List Operand} {ls : List Nat}, labelsOf (l.map ρ) = some ls →
    (∀ L ∈ ls, L < βs.length ∧ ∃ b, bv βs L = .pointer (some ⟨b, 0, none⟩)) ∧ l.map ρ' = ls.map (bv βs)
  | [], ls, h => by cases h; exact ⟨fun L hL => (by cases hL), rfl⟩
  | x :: r, ls, h => by
    simp only [List.map_cons, labelsOf] at h
    split at h
    · rename_i L ls' hL hls
      cases h
      obtain ⟨g1, g2⟩ := labelsOf_rep hρ hls
      have := hρ x
      have h1 : ρ x = .ptr L 0 := by
        unfold labelOf at hL
        split at hL
        · rename_i heq; cases hL; exact heq
        · cases hL
      rw [h1] at this
      obtain ⟨q1, b, q2, q3⟩ := this
      refine ⟨fun M hM => ?_, by rw [List.map_cons, List.map_cons, g2, q3, q2]⟩
      rcases List.mem_cons.1 hM with rfl | hM
      · exact ⟨q1, b, q2⟩
      · exact g1 M hM
    · cases h

theorem enter_run {g : Nat} {args : Array Value} (h : ∃ fn, P.funcs[g]? = some fn ∧ fn.body.isSome = true ∧ (fn.name == "runtime.NumGoroutine") = false) : (callFunc g args).run P w = .ok (.enter g args) w := by
  obtain ⟨fn, h1, h2, h3⟩ := h
  obtain ⟨c, hc⟩ := Option.isSome_iff_exists.1 h2
  exact Go.Proofs.enters_of h1 h3 hc args w

theorem parts_rep {ρ : Operand → TV} {ρ' : Operand → Value} (hρ : ∀ x, TR P J B βs obs w (ρ x) (ρ' x)) (ps : List (Nat × Operand)) :
    (ps.map fun p => (p.1, ρ p.2)).length = (ps.map fun p => (p.1, ρ' p.2)).length ∧ ∀ (j : Nat) (h1 : j < (ps.map fun p => (p.1, ρ p.2)).length) (h2 : j < (ps.map fun p => (p.1, ρ' p.2)).length),
      (ps.map fun p => (p.1, ρ p.2))[j].1 = (ps.map fun p => (p.1, ρ' p.2))[j].1 ∧ TR P J B βs obs w (ps.map fun p => (p.1, ρ p.2))[j].2 (ps.map fun p => (p.1, ρ' p.2))[j].2 := by
  refine ⟨by simp, fun j h1 h2 => ?_⟩
  simp only [List.getElem_map]
  exact ⟨trivial, hρ _⟩

theorem evCallFn_ok (hΓ : CtxOK P J Γ) (hB : B.Ok J) (h : Rep' P J B βs obs w) (hI : J.I w) {k g : Nat} {tvs : List TV} {vals : List Value} (ht : TVs P J B βs obs w tvs vals) (he : (evCallFn Γ wr k g tvs obs).To (tv, obs')) :
    (∃ fn, P.funcs[g]? = some fn ∧ fn.body.isSome = true ∧ (fn.name == "runtime.NumGoroutine") = false) ∧ Calls P g vals.toArray w fun e w' => ∃ v, e = .returned v ∧ Behind P J B βs obs wr w tv obs' v w' := by
  unfold evCallFn at he
  split at he
  · exact (Res.to_fail he).elim
  · rename_i F hF
    split at he
    · exact (Res.to_fail he).elim
    · rename_i obs1 hm
      split at he
      · rename_i xs obs2 hx hl
        obtain ⟨y, hy, he⟩ := Res.to_bind he
        obtain ⟨rfl, rfl⟩ := Res.to_nowV he
        have hg := hΓ.fn _ _ hF
        exact ⟨hg.enters, (callFn_ok hΓ hB h hI hg ht hm hx hl hy).mono fun e w' ⟨b, v, h1, h2, h3⟩ => ⟨v, h1, b, h2, h3⟩⟩
      · exact (Res.to_fail he).elim

/-- memory has only grown -/
theorem Rep'.grown (h : Rep' P J B βs obs w) {wr : Nat → Bool} (hb : Below w.heap.size w w') : Step B βs obs wr w βs obs w' := by
  have hF : ∀ b, Fz B βs obs w b → Fz B βs obs w' b ∧ w'.heap[b]? = w.heap[b]? := fun b hbz => by
    have h1 := h.notOwn hbz
    refine ⟨?_, hb.block b h1.1⟩
    rcases hbz with q | q
    · exact .inl q
    · exact .inr ⟨q.1, Nat.lt_of_lt_of_le q.2.1 hb.size, q.2.2⟩
  exact ⟨hb.os, hb.tape, hb.output, hb.size, fun b hlt _ => hb.block b hlt, Nat.le_refl _, fun _ _ => rfl, h.obs.len, fun b ho => ⟨.inl ho, Nat.lt_of_lt_of_le (h.own b ho).2 hb.size⟩, h.inj, fun _ _ _ => rfl,
    fun L hL => (h.obs.rep L hL).mono hF (Nat.le_refl _) (fun _ _ => rfl) (fun b hl hbv => hb.block b (h.own b ⟨L, hL, hl, hbv⟩).2)⟩

/-- an array of the call's own that is written in place -/
theorem Rep'.inplace (h : Rep' P J B βs obs w) {wr : Nat → Bool} {L : Nat} {e : Kd} {l l' : List e.T} (ho : getOb obs L = .arr e l) (hw : wr L = true) (hos : w'.os = w.os) (htp : w'.tape = w.tape) (hout : w'.output = w.output) (hsz : w.heap.size ≤ w'.heap.size)
    (hblk : ∀ b, b < w.heap.size → bOf (bv βs L) ≠ some b → w'.heap[b]? = w.heap[b]?) (hr : ObRep w' (Fz B βs obs w) [] (bv βs L) (.arr e l')) : Step B βs obs wr w βs (obs.set L (.arr e l')) w' := by
  have hlen := h.obs.len
  have hL : L < obs.length := getOb_live_lt (by rw [ho]; rfl)
  have hLb : L < βs.length := by omega
  have hlive : ∀ M, (getOb (obs.set L (.arr e l')) M).live = (getOb obs M).live := fun M => by
    rw [getOb_set hL]
    by_cases q : L = M
    · subst q; rw [if_pos rfl, ho]; rfl
    · rw [if_neg q]
  have hown : ∀ b, Own βs (obs.set L (.arr e l')) b → Own βs obs b := by
    rintro b ⟨M, hM, h1, h2⟩
    exact ⟨M, hM, by rw [← hlive M]; exact h1, h2⟩
  have hnot : ∀ b, Fz B βs obs w b → bOf (bv βs L) ≠ some b := fun b hb q => (h.notOwn hb).2 ⟨L, hLb, by rw [ho]; rfl, q⟩
  have hF : ∀ b, Fz B βs obs w b → Fz B βs (obs.set L (.arr e l')) w' b ∧ w'.heap[b]? = w.heap[b]? := fun b hb => by
    refine ⟨?_, hblk b (h.notOwn hb).1 (hnot b hb)⟩
    rcases hb with q | q
    · exact .inl q
    · exact .inr ⟨q.1, Nat.lt_of_lt_of_le q.2.1 hsz, fun hn => q.2.2 (hown b hn)⟩
  refine ⟨hos, htp, hout, hsz, fun b hb hn => hblk b hb fun q => hn ⟨L, hLb, by rw [ho]; rfl, q⟩, Nat.le_refl _, fun _ _ => rfl, by simpa using hlen, fun b hb => ⟨.inl (hown b hb), Nat.lt_of_lt_of_le (h.own b (hown b hb)).2 hsz⟩, fun M M' b hM hM' h1 h2 h3 h4 => ?_, fun M hM hwM => ?_, fun M hM => ?_⟩
  · rw [hlive] at h1 h2
    exact h.inj M M' b hM hM' h1 h2 h3 h4
  · rw [getOb_set hL, if_neg]
    rintro rfl
    rw [hw] at hwM; cases hwM
  · rw [getOb_set hL]
    by_cases q : L = M
    · subst q
      rw [if_pos rfl]
      exact hr.mono (fun b hb => ⟨(hF b hb).1, rfl⟩) (Nat.zero_le _) (fun _ q => by cases q) (fun _ _ _ => rfl)
    · rw [if_neg q]
      refine (h.obs.rep M hM).mono hF (Nat.le_refl _) (fun _ _ => rfl) (fun b hl hbv => ?_)
      have ho' : Own βs obs b := ⟨M, hM, hl, hbv⟩
      exact hblk b (h.own b ho').2 fun q2 => q (h.inj L M b hLb hM (by rw [ho]; rfl) hl q2 hbv)
theorem fnsOf_rep : ∀ {tvs : List TV} {vals : List Value} {gs : List Nat}, TVs P J B βs obs w tvs vals → fnsOf tvs = some gs → vals = gs.map fun g => Value.func (.func g) #[] #[]
  | [], vals, gs, ht, hf => by
    have ht : vals = [] := ht
    subst ht
    cases hf; rfl
  | tv :: r, vals, gs, ht, hf => by
    obtain ⟨v, vr, rfl, h1, h2⟩ := ht
    unfold fnsOf at hf
    split at hf
    · rename_i heq; cases heq
    · rename_i g r' heq
      obtain ⟨rfl, rfl⟩ := List.cons.inj heq
      split at hf
      · rename_i gs' hgs
        cases hf
        rw [List.map_cons, ← fnsOf_rep h2 hgs]
        rw [show v = _ from h1.2]
        rfl
      · cases hf
    · cases hf
theorem evCallIo_ok (hΓ : CtxOK P J Γ) (hB : B.Ok J) (h : Rep' P J B βs obs w) (hI : J.I w) {k g : Nat} {F : IoFn} (hg : IoOK P J g F) {tvs : List TV} {vals : List Value} (ht : TVs P J B βs obs w tvs vals) (he : (evCallIo Γ wr k F tvs obs).To (tv, obs')) :
    Calls P g vals.toArray w fun e w' => ∃ v, e = .returned v ∧ Behind P J B βs obs wr w tv obs' v w' := by
  unfold evCallIo at he
  cases tvs with
  | nil => exact (Res.to_fail he).elim
  | cons tv0 r =>
  obtain ⟨v, vr, rfl, ht0, htr⟩ := ht
  dsimp only at he
  cases hfn : fnsOf r with
  | none => rw [hfn] at he; exact (Res.to_fail he).elim
  | some gs =>
  rw [hfn] at he
  dsimp only at he
  obtain rfl := fnsOf_rep htr hfn
  let B2 : Base := ⟨w, fun b => bOf v = some b, Fz B βs obs w⟩
  have nil_case : v = .slice none 0 0 → ∀ l', F.f k [] gs = some l' → Calls P g (v :: gs.map fun g => Value.func (.func g) #[] #[]).toArray w fun e w' => ∃ v, e = .returned v ∧ Behind P J B βs obs wr w (.tup []) obs v w' := fun hv l' hy => by
    have hB2 : B2.Ok J := ⟨fun b hb => ⟨(h.notOwn hb).1, fun q => by
      have q : bOf v = some b := q
      rw [hv] at q; cases q⟩, hI, Nat.le_trans hB.gz h.base, fun b hb q => by
      have q : bOf v = some b := q
      rw [hv] at q; cases q⟩
    refine (hg.ok k B2 (Fz B βs obs w) v [] gs l' hB2 hB2.f0 (.inl ⟨hv, rfl⟩) (fun b q => by rw [hv] at q; cases q) hy).mono fun e w' ⟨h1, hext, _⟩ => ?_
    exact ⟨_, h1, βs, h.grown ⟨hext.os, hext.tape, hext.output, hext.size, fun b hb' => hext.block b hb' (fun q => by
      have q : bOf v = some b := q
      rw [hv] at q; cases q)⟩, ⟨#[], rfl, rfl, fun i hi => by cases hi⟩⟩
  cases tv0 with
  | arr L =>
    dsimp only at he
    cases hwr : wr L with
    | false => rw [hwr] at he; exact (Res.to_fail he).elim
    | true =>
    rw [hwr] at he
    split at he
    rotate_left
    · exact (Res.to_fail he).elim
    rename_i e' l0 _ ho
    split at he
    rotate_left
    · exact (Res.to_fail he).elim
    rename_i l hc
    obtain ⟨l', hy, he⟩ := Res.to_bind he
    obtain ⟨rfl, rfl⟩ := Res.to_nowV he
    obtain ⟨he0, hle⟩ := cast_slice hc
    subst he0
    obtain rfl : l0 = l := hle
    obtain ⟨hLb, hvL⟩ := ht0
    subst hvL
    have hown : ∀ b, bOf (bv βs L) = some b → Own βs obs b := fun b q => ⟨L, hLb, by rw [ho]; rfl, q⟩
    have hB2 : B2.Ok J := ⟨fun b hb => ⟨(h.notOwn hb).1, fun q => (h.notOwn hb).2 (hown b q)⟩, hI, Nat.le_trans hB.gz h.base, fun b hb q => by
      rcases (h.own b (hown b q)).1 with q | q
      · have := hB.gz; omega
      · exact hB.gzG b hb q⟩
    have hrep := h.obs.rep L hLb
    rw [ho] at hrep
    have hrep0 : ObRep w (Fz B βs obs w) [] (bv βs L) (.arr F.e l0) := by
      rcases hrep with q | q
      · exact .inl q
      · exact .inr q
    refine (hg.ok k B2 (Fz B βs obs w) (bv βs L) l0 gs l' hB2 hB2.f0 hrep0 (fun b q => ⟨q, (h.own b (hown b q)).2⟩) hy).mono fun e w' ⟨h1, hext, h2⟩ => ?_
    exact ⟨_, h1, βs, h.inplace ho hwr hext.os hext.tape hext.output hext.size (fun b hb hn => hext.block b hb hn) h2, ⟨#[], rfl, rfl, fun i hi => by cases hi⟩⟩
  | nil =>
    obtain ⟨l', hy, he⟩ := Res.to_bind he
    obtain ⟨rfl, rfl⟩ := Res.to_nowV he
    exact nil_case ht0 l' hy
  | nilk e =>
    obtain ⟨l', hy, he⟩ := Res.to_bind he
    obtain ⟨rfl, rfl⟩ := Res.to_nowV he
    exact nil_case ht0 l' hy
  | _ => exact (Res.to_fail he).elim

theorem cloArg_rep {F' : Nat → Prop} (h : Rep' P J B βs obs w) (hF : ∀ b, FO B βs obs w b → F' b) {a : Kd} {tvs : List TV} {vals : List Value} {x : a.T} (ht : TVs P J B βs obs w tvs vals) (hx : cloArg a tvs obs = some x) : CloArgs w F' a vals x := by
  unfold cloArg at hx
  split at hx
  · obtain ⟨v, r, rfl, h1, h2⟩ := ht
    have h2 : r = [] := h2
    subst h2
    have hv := RdV.mono (fun b hb => ⟨hF b hb, rfl⟩) (toVal_rep h.obs h1 hx)
    cases a with
    | pair p q => cases hv.1
    | _ => exact ⟨v, rfl, hv⟩
  · obtain ⟨v, r, rfl, h1, v', r', rfl, h2, h3⟩ := ht
    have h3 : r' = [] := h3
    subst h3
    split at hx
    · split at hx
      · rename_i u u' e1 e2
        cases hx
        exact ⟨v, v', rfl, RdV.mono (fun b hb => ⟨hF b hb, rfl⟩) (toVal_rep h.obs h1 e1), RdV.mono (fun b hb => ⟨hF b hb, rfl⟩) (toVal_rep h.obs h2 e2)⟩
      · cases hx
    · cases hx
  · cases hx

/-! ### calls that change variables of the caller -/
theorem killObs_ok : ∀ {Ls : List Nat} {obs : List Ob}, (∀ L ∈ Ls, L < obs.length) → (killObs Ls obs).length = obs.length ∧ (∀ M ∈ Ls, getOb (killObs Ls obs) M = .dead) ∧ ∀ M, M ∉ Ls → getOb (killObs Ls obs) M = getOb obs M
  | [], obs, _ => ⟨rfl, by simp, fun _ _ => rfl⟩
  | L :: r, obs, h => by
    have hL := h L (List.mem_cons_self ..)
    obtain ⟨g1, g2, g3⟩ := killObs_ok (Ls := r) (obs := obs.set L .dead) (fun M hM => by simpa using h M (List.mem_cons_of_mem _ hM))
    have hs : ∀ M, getOb (obs.set L .dead) M = if L = M then .dead else getOb obs M := fun M => getOb_set hL
    refine ⟨by rw [show killObs (L :: r) obs = killObs r (obs.set L .dead) from rfl, g1]; simp, fun M hM => ?_, fun M hM => ?_⟩
    · show getOb (killObs r (obs.set L .dead)) M = .dead
      by_cases q : M ∈ r
      · exact g2 M q
      · rw [g3 M q, hs]
        rcases List.mem_cons.1 hM with rfl | hM
        · rw [if_pos rfl]
        · exact absurd hM q
    · show getOb (killObs r (obs.set L .dead)) M = getOb obs M
      rw [g3 M (fun q => hM (List.mem_cons_of_mem _ q)), hs, if_neg]
      rintro rfl
      exact hM (List.mem_cons_self ..)
theorem boxesOf_len {ps : List XPm} {tvs : List TV} : ∀ {cs : List Nat} {i : Nat} {Ls : List Nat}, boxesOf ps tvs i cs = some Ls → Ls.length = cs.length
  | [], i, Ls, h => by cases h; rfl
  | c :: cs, i, Ls, h => by
    simp only [boxesOf] at h
    split at h
    · rename_i L Ls' _ h2
      cases h
      simp [boxesOf_len h2]
    · cases h
theorem zipN_fst : ∀ {Ls cs : List Nat}, Ls.length = cs.length → (zipN Ls cs).map (·.1) = Ls
  | [], [], _ => rfl
  | L :: r, c :: cs, h => by
    show L :: (zipN r cs).map (·.1) = _
    rw [zipN_fst (by simpa using h)]
  | [], _ :: _, h => by cases h
  | _ :: _, [], h => by cases h
def blkOf (βs : List Value) (L : Nat) : Nat := (bOf (bv βs L)).getD 0
theorem capsAgree_rep {Ls : List Nat} (hb : ∀ L ∈ Ls, bv βs L = ptrV (blkOf βs L)) : ∀ {is caps : List Nat}, capsAgree Ls is caps = true → is.map (fun i => (Ls.map (blkOf βs))[i]?) = (caps.map (blkOf βs)).map some ∧ caps.map (bv βs) = (caps.map (blkOf βs)).map ptrV
  | [], [], _ => ⟨rfl, rfl⟩
  | i :: is, L :: r, h => by
    simp only [capsAgree, Bool.and_eq_true] at h
    obtain ⟨h1, h2⟩ := h
    obtain ⟨g1, g2⟩ := capsAgree_rep hb h2
    split at h1
    · rename_i M hM
      have e : M = L := Nat.eq_of_beq_eq_true h1
      subst e
      have hm : M ∈ Ls := List.mem_of_getElem? hM
      refine ⟨?_, ?_⟩
      · rw [List.map_cons, g1, List.getElem?_map, hM]; rfl
      · rw [List.map_cons, g2, hb M hm]; rfl
    · cases h1
  | [], _ :: _, h => by cases h
  | _ :: _, [], h => by cases h
theorem boxesAgree_rep {Ls : List Nat} (hb : ∀ L ∈ Ls, bv βs L = ptrV (blkOf βs L)) : ∀ {ps : List XPm} {tvs : List TV} {vals : List Value}, TVs P J B βs obs w tvs vals → boxesAgree Ls ps tvs = true →
    ∃ pv, XArgs (Ls.map (blkOf βs)) ps vals pv ∧ TVs P J B βs obs w (plainTVs ps tvs) pv
  | [], [], vals, ht, _ => ⟨[], ⟨ht, rfl⟩, rfl⟩
  | .pl p :: ps, tv :: tvs, _, ⟨v, r, rfl, h1, h2⟩, hg => by
    obtain ⟨pv, g1, g2⟩ := boxesAgree_rep hb h2 hg
    exact ⟨v :: pv, ⟨v, r, pv, rfl, rfl, g1⟩, ⟨v, pv, rfl, h1, g2⟩⟩
  | .bx i :: ps, tv :: tvs, _, ⟨v, r, rfl, h1, h2⟩, hg => by
    simp only [boxesAgree, Bool.and_eq_true] at hg
    obtain ⟨hg1, hg2⟩ := hg
    obtain ⟨pv, g1, g2⟩ := boxesAgree_rep hb h2 hg2
    split at hg1
    · rename_i L hL
      have e : tv = .ptr L 0 := by
        unfold labelOf at hL
        split at hL
        · cases hL; rfl
        · cases hL
      subst e
      obtain ⟨c1, c2⟩ := capsAgree_rep hb hg1
      obtain ⟨q1, b, q2, q3⟩ := h1
      have hv : v = ptrV (blkOf βs L) := by
        rw [q3]; unfold blkOf; rw [q2]; rfl
      refine ⟨pv, ⟨blkOf βs L, r, ?_, by rw [hv], g1⟩, g2⟩
      simpa using c1
    · cases hg1
  | .clo g is :: ps, tv :: tvs, _, ⟨v, r, rfl, h1, h2⟩, hg => by
    simp only [boxesAgree, Bool.and_eq_true] at hg
    obtain ⟨hg1, hg2⟩ := hg
    obtain ⟨pv, g1, g2⟩ := boxesAgree_rep hb h2 hg2
    split at hg1
    · rename_i g' caps
      rw [Bool.and_eq_true] at hg1
      have e : g = g' := Nat.eq_of_beq_eq_true hg1.1
      subst e
      obtain ⟨c1, c2⟩ := capsAgree_rep hb hg1.2
      refine ⟨pv, ⟨caps.map (blkOf βs), r, c1, ?_, g1⟩, g2⟩
      rw [show v = _ from h1.2, c2]
    · cases hg1
  | [], _ :: _, _, _, hg => by cases hg
  | .pl _ :: _, [], _, _, hg => by cases hg
  | .bx _ :: _, [], _, _, hg => by cases hg
  | .clo _ _ :: _, [], _, _, hg => by cases hg
theorem BoxVals.go0 {βs' : List Value} : ∀ {Ls cs : List Nat} {vs : List Value} {i : Nat}, Ls.length = cs.length → (∀ j (h : j < Ls.length), bv βs' (i + j) = bv βs Ls[j]) → (BoxVals w βs (zipN Ls cs) vs ↔ BoxVals w βs' (cnts0 i cs) vs)
  | [], [], vs, i, _, _ => Iff.rfl
  | L :: r, c :: cs, vs, i, hl, hb => by
    have h0 := hb 0 (by simp)
    have ih : ∀ q, BoxVals w βs (zipN r cs) q ↔ BoxVals w βs' (cnts0 (i + 1) cs) q := fun q => BoxVals.go0 (by simpa using hl) fun j hj => by
      have := hb (j + 1) (by simpa using hj)
      rw [List.getElem_cons_succ] at this
      rw [← this]; congr 1; omega
    rw [Nat.add_zero, List.getElem_cons_zero] at h0
    show (∃ (b : Nat) (c' : Array Value) (t : TypeId) (fr : Nat × Nat) (q : List Value), vs = c'.toList ++ q ∧ bv βs L = _ ∧ _ ∧ _ ∧ _ ∧ BoxVals w βs (zipN r cs) q) ↔ (∃ (b : Nat) (c' : Array Value) (t : TypeId) (fr : Nat × Nat) (q : List Value), vs = c'.toList ++ q ∧ bv βs' i = _ ∧ _ ∧ _ ∧ _ ∧ BoxVals w βs' (cnts0 (i + 1) cs) q)
    rw [h0]
    constructor
    · rintro ⟨b, c', t, fr, q, e1, e2, e3, e4, e5, e6⟩
      exact ⟨b, c', t, fr, q, e1, e2, e3, e4, e5, (ih q).1 e6⟩
    · rintro ⟨b, c', t, fr, q, e1, e2, e3, e4, e5, e6⟩
      exact ⟨b, c', t, fr, q, e1, e2, e3, e4, e5, (ih q).2 e6⟩
  | [], _ :: _, _, _, h, _ => by cases h
  | _ :: _, [], _, _, h, _ => by cases h
theorem BoxVals.ptr : ∀ {cnts : List (Nat × Nat)} {vs : List Value}, BoxVals w βs cnts vs → ∀ p ∈ cnts, ∃ b, bv βs p.1 = ptrV b
  | [], _, _ => by simp
  | p :: r, vs, ⟨b, c, t, fr, q, e1, e2, e3, e4, e5, e6⟩ => by
    intro p' hp
    rcases List.mem_cons.1 hp with rfl | hp
    · exact ⟨b, e2⟩
    · exact BoxVals.ptr e6 p' hp
theorem PackRep.mono {F F' : Nat → Prop} {s : SV} {x : s.T} {v : Value} (hF : ∀ b, F b → F' b) (h : PackRep w F s x v) : PackRep w F' s x v := by
  cases s with
  | val k => exact RdV.mono (fun b hb => ⟨hF b hb, rfl⟩) h
  | arr e => exact ObRep.mono (βs := []) (βs' := []) (o := .arr e x) (fun b hb => ⟨hF b hb, rfl⟩) (Nat.le_refl _) (fun _ _ => rfl) (fun _ _ _ => rfl) h
  | map kk kv => exact ObRep.mono (βs := []) (βs' := []) (o := .map kk kv x) (fun b hb => ⟨hF b hb, rfl⟩) (Nat.le_refl _) (fun _ _ => rfl) (fun _ _ _ => rfl) h
theorem PacksRep.mono {F F' : Nat → Prop} (hF : ∀ b, F b → F' b) : ∀ {ss : List SV} {x : XT ss} {vs : List Value}, PacksRep w F ss x vs → PacksRep w F' ss x vs
  | [], _, _, h => h
  | [s], _, _, ⟨v, e, h⟩ => ⟨v, e, h.mono hF⟩
  | s :: t :: r, _, _, ⟨v, q, e, h1, h2⟩ => ⟨v, q, e, h1.mono hF, PacksRep.mono hF h2⟩
theorem PackRep.flat_ {F F' : Nat → Prop} {s : SV} {x : s.T} {v : Value} (hf : s.flat = true) (h : PackRep w F s x v) : PackRep w F' s x v := by
  cases s with
  | val k => exact RdV.flat_ hf h
  | arr e =>
    rcases h with h | ⟨b, off, cap, c, t, fr, h1, h2, h3, h4, h5, h6⟩
    · exact .inl h
    · refine .inr ⟨b, off, cap, c, t, fr, h1, h2, h3, h4, h5, fun i hi => ?_⟩
      obtain ⟨cs, e1, e2, e3⟩ := h6 i hi
      exact ⟨cs, e1, e2, Rd.flat_ hf e3⟩
  | map kk kv =>
    have hf : (kk.flat && kv.flat) = true := hf
    rw [Bool.and_eq_true] at hf
    obtain ⟨r, h1, es, clock, h2, h3, h4⟩ := h
    refine ⟨r, h1, es, clock, h2, h3, fun i hi => ?_⟩
    obtain ⟨en, ck, cv, e1, e2, e3, e4, e5⟩ := h4 i hi
    exact ⟨en, ck, cv, e1, e2, e3, Rd.flat_ hf.1 e4, Rd.flat_ hf.2 e5⟩
theorem PacksRep.flat_ {F F' : Nat → Prop} : ∀ {ss : List SV} {x : XT ss} {vs : List Value}, ss.all SV.flat = true → PacksRep w F ss x vs → PacksRep w F' ss x vs
  | [], _, _, _, h => h
  | [s], _, _, hf, ⟨v, e, h⟩ => ⟨v, e, h.flat_ (by simpa using hf)⟩
  | s :: t :: r, _, _, hf, ⟨v, q, e, h1, h2⟩ => by
    rw [List.all_cons, Bool.and_eq_true] at hf
    exact ⟨v, q, e, h1.flat_ hf.1, PacksRep.flat_ hf.2 h2⟩
theorem unpack_leafS : ∀ {ss : List SV} {x : XT ss} {obs : List Ob}, ss.all SV.leaf = true → ∀ (i : Nat) (h1 : i < (unpack ss x obs).1.length), leafOK (unpack ss x obs).1[i]
  | [], x, obs, _ => fun i h1 => by cases h1
  | [s], x, obs, hs => fun i h1 => by
    have hs : s.leaf = true := by simpa using hs
    have : i = 0 := by simp [unpack] at h1; omega
    subst this
    cases s with
    | val k => show k.isAgg = false; simpa [SV.leaf] using hs
    | arr e => trivial
    | map kk kv => trivial
  | s :: t :: r, x, obs, hs => by
    rw [List.all_cons, Bool.and_eq_true] at hs
    intro i h1
    cases i with
    | zero =>
      cases s with
      | val k => show k.isAgg = false; simpa [SV.leaf] using hs.1
      | arr e => trivial
      | map kk kv => trivial
    | succ i => exact unpack_leafS (ss := t :: r) (x := x.2) (obs := (unpackOne s x.1 obs).2) hs.2 i (by simpa [unpack] using h1)
theorem blks_nodup : ∀ {l : List Value}, (∀ i j b, bOf (l.getD i undef) = some b → bOf (l.getD j undef) = some b → i = j) → (blks l).Nodup
  | [], _ => by simp [blks]
  | v :: l, h => by
    have ih : (blks l).Nodup := blks_nodup fun i j b h1 h2 => by
      have := h (i + 1) (j + 1) b (by simpa using h1) (by simpa using h2)
      omega
    unfold blks at *
    rw [List.flatMap_cons, List.nodup_append]
    refine ⟨by cases bOf v <;> simp, ih, fun a ha b hb e => ?_⟩
    subst e
    have h1 : bOf v = some a := by
      cases q : bOf v with
      | none => rw [q] at ha; simp at ha
      | some c => rw [q] at ha; simp at ha; rw [ha]
    obtain ⟨u, hu, hau⟩ := List.mem_flatMap.1 hb
    obtain ⟨i, hi, rfl⟩ := List.getElem_of_mem hu
    have h2 : bOf l[i] = some a := by
      cases q : bOf l[i] with
      | none => rw [q] at hau; simp at hau
      | some c => rw [q] at hau; simp at hau; rw [hau]
    have := h 0 (i + 1) a (by simpa using h1) (by simpa [hi] using h2)
    omega
theorem mem_blks {l : List Value} {b : Nat} (h : b ∈ blks l) : ∃ v ∈ l, bOf v = some b := by
  obtain ⟨v, hv, hb⟩ := List.mem_flatMap.1 h
  refine ⟨v, hv, ?_⟩
  cases q : bOf v with
  | none => rw [q] at hb; simp at hb
  | some c => rw [q] at hb; simp at hb; rw [hb]

theorem evCallX_ok (hΓ : CtxOK P J Γ) (hB : B.Ok J) (h : Rep' P J B βs obs w) (hI : J.I w) {k g : Nat} {F : XFn} (hg : XOK P J g F) {tvs : List TV} {vals : List Value} (ht : TVs P J B βs obs w tvs vals) (he : (evCallX Γ wr k F tvs obs).To (tv, obs')) :
    Calls P g vals.toArray w fun e w' => ∃ v, e = .returned v ∧ Behind P J B βs obs wr w tv obs' v w' := by
  unfold evCallX at he
  split at he
  · exact (Res.to_fail he).elim
  rename_i Ls hLs
  split at he
  · exact (Res.to_fail he).elim
  rename_i hag
  rw [Bool.and_eq_true, Bool.and_eq_true] at hag
  obtain ⟨hag, hnd0, hwr0⟩ := hag
  have hLn := nodupB_nodup hnd0
  have hLw := allWr_all hwr0
  split at he
  · exact (Res.to_fail he).elim
  rename_i src hsrc
  split at he
  rotate_left
  · exact (Res.to_fail he).elim
  rename_i o1 x hlv hpk
  split at he
  · exact (Res.to_fail he).elim
  rename_i obs1 hm
  split at he
  rotate_left
  · exact (Res.to_fail he).elim
  rename_i xs obs2 hx hl
  obtain ⟨y, hy, he⟩ := Res.to_bind he
  obtain ⟨rfl, rfl⟩ := Res.to_nowV he
  have hlen := h.obs.len
  have hLl := boxesOf_len hLs
  have hzf := zipN_fst hLl
  obtain ⟨vs, hsv, hbv, hleaf, hbox⟩ := srcObs_rep h hsrc
  obtain ⟨lv1, lv2, lv3, lv4, lv5⟩ := leave_ok hlv
  have hLbox : ∀ L ∈ Ls, ∃ cs, getOb obs L = .box cs := fun L hL => by
    rw [← hzf] at hL
    obtain ⟨p, hp, rfl⟩ := List.mem_map.1 hL
    exact hbox p hp
  have hLlt : ∀ L ∈ Ls, L < obs.length := fun L hL => by
    obtain ⟨cs, hcs⟩ := hLbox L hL
    exact getOb_lt hcs rfl
  have hLlive : ∀ L ∈ Ls, (getOb obs L).live = true := fun L hL => by
    obtain ⟨cs, hcs⟩ := hLbox L hL
    rw [hcs]; rfl
  have hLptr : ∀ L ∈ Ls, bv βs L = ptrV (blkOf βs L) := fun L hL => by
    have hL' : L ∈ (zipN Ls F.cs).map (·.1) := by rw [hzf]; exact hL
    obtain ⟨p, hp, rfl⟩ := List.mem_map.1 hL'
    obtain ⟨b, hb⟩ := hbv.ptr p hp
    unfold blkOf
    rw [hb]; rfl
  have hLb : ∀ L ∈ Ls, bOf (bv βs L) = some (blkOf βs L) := fun L hL => by rw [hLptr L hL]; rfl
  obtain ⟨kl1, kl2, kl3⟩ := killObs_ok (Ls := Ls) (obs := o1) (fun L hL => by rw [lv1.1]; exact hLlt L hL)
  have hdD : Drops obs (killObs Ls o1) := ⟨kl1.trans lv1.1, fun M => by
    by_cases q : M ∈ Ls
    · exact .inr (kl2 M q)
    · rw [kl3 M q]; exact lv1.2 M⟩
  -- what is handed over: not the caller's own any more
  have hgone : ∀ {L b}, L < βs.length → (getOb obs L).live = true → getOb (killObs Ls o1) L = .dead → bOf (bv βs L) = some b → Own βs obs b ∧ ¬ Own βs (killObs Ls o1) b := fun {L b} h1 h2 h3 h4 => by
    refine ⟨⟨L, h1, h2, h4⟩, ?_⟩
    rintro ⟨M, hM, m1, m2⟩
    have m3 : (getOb obs M).live = true := by rw [← hdD.live (fun e => by rw [e] at m1; cases m1)]; exact m1
    have := h.inj L M b h1 hM h2 m3 h4 m2
    subst this
    rw [h3] at m1; cases m1
  have hLd : ∀ L ∈ Ls, Own βs obs (blkOf βs L) ∧ ¬ Own βs (killObs Ls o1) (blkOf βs L) := fun L hL => hgone (by rw [hlen]; exact hLlt L hL) (hLlive L hL) (kl2 L hL) (hLb L hL)
  have hsd : ∀ L ∈ srcLabels src, L ∉ Ls ∧ getOb (killObs Ls o1) L = .dead := fun L hL => by
    have q := lv3 L hL
    have hn : L ∉ Ls := fun q2 => by
      obtain ⟨cs, hcs⟩ := hLbox L q2
      exact q.2.2.1 cs hcs
    exact ⟨hn, by rw [kl3 L hn]; exact q.2.2.2⟩
  have hnv := newVals_own hsv ⟨x, hpk⟩
  have hnvd : ∀ b ∈ blks (newVals F.ss vs), Own βs obs b ∧ ¬ Own βs (killObs Ls o1) b := fun b hb => by
    obtain ⟨v, hv, hvb⟩ := mem_blks hb
    obtain ⟨L, hL, q1, q2⟩ := hnv v hv b hvb
    exact hgone q1 (lv3 L hL).2.1 (hsd L hL).2 q2
  have hnvi := newVals_inj h hsv ⟨x, hpk⟩ lv2 (fun L hL => (lv3 L hL).2.1)
  -- the plain arguments
  obtain ⟨pv, hxa, htp⟩ := boxesAgree_rep hLptr ht hag
  obtain ⟨hd, hlk, hnd, hgs, hsub, _⟩ := moved_ok h hdD (fun b hb => hdD.own hb) hm htp (fun M hM hwM => by
    have hn : M ∉ Ls := fun q => by rw [hLw M q] at hwM; cases hwM
    rw [kl3 M hn]
    refine lv4 M fun q => ?_
    rw [(lv3 M q).1] at hwM; cases hwM)
  let flat := F.rs.all Lm.flat && F.ss.all SV.flat
  have hrel : FrzRel obs1 obs2 ∧ (∀ M, wr M = false → getOb obs2 M = getOb obs1 M) ∧ (flat = true ∨ ∃ o1, FrzRel obs1 o1 ∧ lent wr (plains F.ps) (plainTVs F.ps tvs) o1 = some obs2) := by
    split at hl
    · rename_i hf
      cases hl; exact ⟨FrzRel.refl _, fun _ _ => rfl, .inl hf⟩
    · obtain ⟨q1, q2⟩ := lent_rel hl
      exact ⟨q1, q2, .inr ⟨obs1, FrzRel.refl _, hl⟩⟩
  obtain ⟨hrel, hlk2, hlent⟩ := hrel
  let bls := Ls.map (blkOf βs)
  let gs := ownBs (plains F.ps) pv ++ blks (newVals F.ss vs) ++ bls
  have hgs' : ∀ b ∈ gs, Own βs obs b ∧ ¬ Own βs obs1 b := fun b hb => by
    rcases List.mem_append.1 hb with hb | hb
    · rcases List.mem_append.1 hb with hb | hb
      · exact ⟨hdD.own (hgs b hb).1, (hgs b hb).2⟩
      · exact ⟨(hnvd b hb).1, fun q => (hnvd b hb).2 (hsub b q)⟩
    · obtain ⟨L, hL, rfl⟩ := List.mem_map.1 hb
      exact ⟨(hLd L hL).1, fun q => (hLd L hL).2 (hsub _ q)⟩
  have hbls : bls.Nodup := by
    refine List.pairwise_map.2 (hLn.imp_of_mem fun {a b} ha hb hne e => hne ?_)
    exact h.inj a b (blkOf βs a) (by rw [hlen]; exact hLlt a ha) (by rw [hlen]; exact hLlt b hb) (hLlive a ha) (hLlive b hb) (hLb a ha) (by rw [hLb b hb, e])
  have hgnd : gs.Nodup := by
    refine List.nodup_append.2 ⟨List.nodup_append.2 ⟨hnd, blks_nodup hnvi, fun a ha b hb e => ?_⟩, hbls, fun a ha b hb e => ?_⟩
    · subst e; exact (hnvd a hb).2 (hgs a ha).1
    · subst e
      obtain ⟨L, hL, rfl⟩ := List.mem_map.1 hb
      rcases List.mem_append.1 ha with ha | ha
      · exact (hLd L hL).2 (hgs _ ha).1
      · obtain ⟨v, hv, hvb⟩ := mem_blks ha
        obtain ⟨M, hM, q1, q2⟩ := hnv v hv _ hvb
        have := h.inj L M _ (by rw [hlen]; exact hLlt L hL) q1 (hLlive L hL) (lv3 M hM).2.1 (hLb L hL) q2
        subst this
        exact (hsd L hM).1 hL
  let B2 : Base := ⟨w, fun b => b ∈ gs, CF B βs obs obs1 obs2 flat w⟩
  have hcf : ∀ b, CF B βs obs obs1 obs2 flat w b → b < w.heap.size ∧ b ∉ gs := fun b hb => by
    rcases hb with hb | hb
    · have := h.notOwn hb
      exact ⟨this.1, fun q => this.2 (hgs' b q).1⟩
    · exact ⟨(h.own b (hd.own hb.1)).2, fun q => (hgs' b q).2 hb.1⟩
  have hB2 : B2.Ok J := ⟨hcf, hI, Nat.le_trans hB.gz h.base, fun b hb hq => by
    rcases (h.own b (hgs' b hq).1).1 with q | q
    · have := hB.gz; omega
    · exact hB.gzG b hb q⟩
  have hS : ∀ b, B.S b → B2.S b := fun b hb => ⟨Nat.lt_of_lt_of_le hb.1 h.base, fun q => by
    rcases (h.own b (hgs' b q).1).1 with q1 | q1
    · have := hb.1; omega
    · exact hb.2 q1⟩
  have hFz : ∀ b, Fz B βs obs w b → B2.S b := fun b hb => by
    have := h.notOwn hb
    exact ⟨this.1, fun q => this.2 (hgs' b q).1⟩
  have hFS : ∀ b, Own βs obs1 b → B2.S b := fun b hb => ⟨(h.own b (hd.own hb)).2, fun q => (hgs' b q).2 hb⟩
  have hargs := argsOf_rep (S' := B2.S) (flat := flat) hΓ h hd hrel hS hFz (fun b hb => hb.1) hFS htp hx hlent
  have hpr : PacksRep w (CF B βs obs obs1 obs2 flat w) F.ss x vs := (pack_rep h hsv hpk).mono fun b hb => .inl hb
  have hb0 : BoxVals w (bls.map ptrV) (cnts0 0 F.cs) vs := (BoxVals.go0 (βs' := bls.map ptrV) hLl (fun j hj => by
    rw [Nat.zero_add, hLptr _ (List.getElem_mem hj)]
    simp [bv, bls, hj])).1 hbv
  have hcall := hg.ok k B2 vals pv bls vs x xs y hB2 hxa (by simp [bls, hLl]) hargs hb0 hpr hgnd (fun b hb => ⟨hb, (h.own b (hgs' b hb).1).2⟩) hy
  refine hcall.mono fun e w' hp => ?_
  obtain ⟨rvs, vs', own, rfl, rfl, hret, hpk', hbv', hnd2, hown2, hext⟩ := hp
  have hfin : ∃ F', RetsRep w' F' F.rs y.1 rvs ∧ PacksRep w' F' F.ss y.2 vs' ∧ ∀ b, F' b → (Fz B βs obs w b ∨ (Own βs obs1 b ∧ ¬ Own βs obs2 b) ∨ ((w.heap.size ≤ b ∨ b ∈ gs) ∧ b < w'.heap.size ∧ b ∉ ownRs F.rs rvs ++ blks (newVals F.ss vs') ++ bls)) := by
    cases hfl : flat with
    | true =>
      have hfl : (F.rs.all Lm.flat && F.ss.all SV.flat) = true := hfl
      rw [Bool.and_eq_true] at hfl
      exact ⟨fun _ => False, (RetsRep.flat_ hfl.1 hret).1, hpk'.flat_ hfl.2, fun b hb => hb.elim⟩
    | false =>
      refine ⟨_, hret, hpk', fun b hb => ?_⟩
      rcases hb with (hb | hb) | hb
      · exact .inl hb
      · rcases hb.2 with q | q
        · rw [hfl] at q; cases q
        · exact .inr (.inl ⟨hb.1, q⟩)
      · exact .inr (.inr hb)
  obtain ⟨F', hret', hpk2, hF'⟩ := hfin
  obtain ⟨r1, r2⟩ := ownObs_rep hret'
  obtain ⟨n1, n2⟩ := newObs_rep hpk2
  have hl2 : βs.length = obs2.length := by rw [hlen, ← hd.1, ← hrel.1]
  -- the state behind
  have ho2 : ∀ {L}, L ∈ Ls → L < obs2.length := fun {L} hL => by rw [← hl2, hlen]; exact hLlt L hL
  let nv := ownVals F.rs rvs ++ newVals F.ss vs'
  let βf := βs ++ nv
  have hnvl : nv.length = (ownObs F.rs y.1 ++ newObs F.ss y.2).length := by simp [nv, r1, n1]
  have hbf : ∀ {L}, L < βs.length → bv βf L = bv βs L := fun {L} hL => by rw [bv_app, if_pos hL]
  have hbn : ∀ i, bv βf (βs.length + i) = nv.getD i undef := fun i => by rw [bv_app, if_neg (by omega), Nat.add_sub_cancel_left]; rfl
  obtain ⟨u1, u2⟩ := unpack_rep (F' := F') (obs := obs2 ++ ownObs F.rs y.1) (βs := βs ++ ownVals F.rs rvs) (βf := βf) (fun _ q => q) hpk2 (by simp [hl2, r1]) (fun i hi => by
    rw [List.length_append, Nat.add_assoc, hbn]
    simp [nv, List.getElem?_append_right]) (by simp [βf, nv])
  have hul := unpack_leafS (ss := F.ss) (x := y.2) (obs := obs2 ++ ownObs F.rs y.1) hg.leaf
  have hbvz : BoxVals w' βs (zipN Ls F.cs) vs' := (BoxVals.go0 (βs' := bls.map ptrV) hLl (fun j hj => by
    rw [Nat.zero_add, hLptr _ (List.getElem_mem hj)]
    simp [bv, bls, hj])).2 hbv'
  obtain ⟨s1, s2, s3⟩ := openSet_rep (F' := F') (βs' := βf) (cnts := zipN Ls F.cs) (rvs := (unpack F.ss y.2 (obs2 ++ ownObs F.rs y.1)).1) (obs := (unpack F.ss y.2 (obs2 ++ ownObs F.rs y.1)).2) hbvz u1 (fun i hi => ⟨hul i hi, by
    have := u2 i hi (by omega)
    have e : vs'.getD i undef = vs'[i]'(by omega) := by simp [show i < vs'.length by omega]
    rw [e]; exact this⟩) (by rw [hzf]; exact hLn) (fun p hp => by
    have hpL : p.1 ∈ Ls := by rw [← hzf]; exact List.mem_map_of_mem hp
    refine ⟨?_, hbf (by rw [hl2]; exact ho2 hpL)⟩
    rw [unpack_obs, List.length_append, List.length_append]
    have := ho2 hpL; omega)
  rw [hzf] at s2 s3
  have hobs : (unpack F.ss y.2 (obs2 ++ ownObs F.rs y.1)).2 = obs2 ++ (ownObs F.rs y.1 ++ newObs F.ss y.2) := by rw [unpack_obs, List.append_assoc]
  have hLd2 : ∀ L ∈ Ls, L < βs.length ∧ wr L = true ∧ (getOb obs L).live = true ∧ ∃ b, bOf (bv βs L) = some b ∧ b ∈ gs := fun L hL =>
    ⟨by rw [hlen]; exact hLlt L hL, hLw L hL, hLlive L hL, blkOf βs L, hLb L hL, List.mem_append_right _ (List.mem_map_of_mem hL)⟩
  have hblk : Ls.flatMap (fun L => (bOf (bv βs L)).toList) = bls := by
    have : ∀ (l : List Nat), (∀ L ∈ l, bOf (bv βs L) = some (blkOf βs L)) → l.flatMap (fun L => (bOf (bv βs L)).toList) = l.map (blkOf βs) := by
      intro l
      induction l with
      | nil => intro _; rfl
      | cons a l ih => intro hh; rw [List.flatMap_cons, List.map_cons, ih (fun L hL => hh L (List.mem_cons_of_mem _ hL)), hh a (List.mem_cons_self ..)]; rfl
    exact this Ls hLb
  obtain ⟨hstep, hFF⟩ := Rep'.calledX (wr := wr) (F' := F') (news := ownObs F.rs y.1 ++ newObs F.ss y.2) (vs := nv) (own := ownRs F.rs rvs ++ blks (newVals F.ss vs') ++ bls) (obs' := openSet (zipN Ls F.cs) (unpack F.ss y.2 (obs2 ++ ownObs F.rs y.1)).1 (unpack F.ss y.2 (obs2 ++ ownObs F.rs y.1)).2)
    h hd hrel (fun M hM hw => (hlk2 M hw).trans (hlk M hM hw)) hgs' hext.os hext.tape hext.output hext.size (fun b hb hn => hext.block b hb hn) hLd2 hnvl.symm
    (by rw [hblk, ownRs_vals]; simp [blks, nv]) hnd2 hown2 (by rw [s1, hobs]; simp) (fun M hM hn => by
      rw [s2 M hn, hobs, getOb_app, if_pos hM]) (fun i hi => by
      rw [s2 _ (fun q => by have := ho2 q; omega), hobs, getOb_app, if_neg (by omega), Nat.add_sub_cancel_left]) (fun i h1 h2 => by
      by_cases q : i < (ownObs F.rs y.1).length
      · obtain ⟨e, l, q1, q2⟩ := r2 i q (by omega)
        have e1 : (ownObs F.rs y.1 ++ newObs F.ss y.2)[i] = .arr e l := by rw [List.getElem_append_left q, q1]
        have e2 : nv[i] = (ownVals F.rs rvs)[i]'(by omega) := List.getElem_append_left (by omega)
        rw [e1, e2]
        exact ⟨rfl, q2⟩
      · have hi' : i - (ownObs F.rs y.1).length < (newObs F.ss y.2).length := by rw [List.length_append] at h1; omega
        obtain ⟨q1, q2⟩ := n2 (i - (ownObs F.rs y.1).length) hi' (by omega)
        have e1 : (ownObs F.rs y.1 ++ newObs F.ss y.2)[i] = (newObs F.ss y.2)[i - (ownObs F.rs y.1).length] := List.getElem_append_right (by omega)
        have e2 : nv[i] = (newVals F.ss vs')[i - (ownObs F.rs y.1).length]'(by omega) := by
          have : nv[i] = (newVals F.ss vs')[i - (ownVals F.rs rvs).length]'(by omega) := List.getElem_append_right (by omega)
          rw [this]; simp only [r1]
        rw [e1, e2]
        exact ⟨q1, q2⟩) (fun L hL => by
      obtain ⟨cs, c1, c2⟩ := s3 L hL
      refine ⟨cs, c1, ?_⟩
      rw [hbf (by rw [hl2]; exact ho2 hL)] at c2
      exact c2) hF'
  rw [back_obs]
  obtain ⟨b1, b2⟩ := back_rep (obs := obs2) (βs := βs) (βf := βf) hFF hret' (fun _ _ => .inr hFF) hl2 (fun i hi => by
    rw [hbn]
    rw [List.length_append] at hi
    simp [nv, List.getElem?_append_left (show i < (ownVals F.rs rvs).length by omega)]) (by simp [βf, nv])
  exact ⟨_, rfl, βf, hstep, tvOf_rep b1 b2⟩

theorem evCallV_ok (hΓ : CtxOK P J Γ) (hB : B.Ok J) (h : Rep' P J B βs obs w) (hI : J.I w) {k : Nat} {f : TV} {vf : Value} {tvs : List TV} {vals : List Value} (hf : TR P J B βs obs w f vf) (ht : TVs P J B βs obs w tvs vals) (he : (evCallV Γ wr k f tvs obs).To (tv, obs')) :
    OpGives P J B βs obs wr w (do let d ← Deferred.ofValue vf vals.toArray; invoke d.target d.args) tv obs' := by
  unfold evCallV at he
  split at he
  · rename_i g caps
    obtain ⟨h1, rfl⟩ := hf
    have hcaps : TVs P J B βs obs w (caps.map fun L => TV.ptr L 0) (caps.map (bv βs)) := by
      clear he
      induction caps with
      | nil => rfl
      | cons L Ls ih =>
        obtain ⟨q1, b, q2⟩ := h1 L (List.mem_cons_self ..)
        exact ⟨_, _, rfl, ⟨q1, b, q2, q2⟩, ih (fun M hM => h1 M (List.mem_cons_of_mem _ hM))⟩
    split at he
    · rename_i F hF
      have g1 := (hΓ.io _ _ hF).enters
      have g2 := evCallIo_ok hΓ hB h hI (hΓ.io _ _ hF) (ht.append hcaps) he
      refine .inr (.inr ⟨g, vals.toArray ++ (caps.map (bv βs)).toArray, ?_, by simpa using g2⟩)
      simp [Deferred.ofValue, invoke, enter_run g1]
    split at he
    · rename_i F hF
      have g1 := (hΓ.xf _ _ hF).enters
      have g2 := evCallX_ok hΓ hB h hI (hΓ.xf _ _ hF) (ht.append hcaps) he
      refine .inr (.inr ⟨g, vals.toArray ++ (caps.map (bv βs)).toArray, ?_, by simpa using g2⟩)
      simp [Deferred.ofValue, invoke, enter_run g1]
    split at he
    · rename_i F hF
      have g0 := hΓ.yf _ _ hF
      have g1 := g0.enters
      obtain ⟨p, hp, he⟩ := Res.to_bind he
      cases Res.to_now he
      have g2 := g0.ok _ _ _ _ _ _ _ _ _ _ hB h hI (ht.append hcaps) hp
      refine .inr (.inr ⟨g, vals.toArray ++ (caps.map (bv βs)).toArray, ?_, by simpa using g2⟩)
      simp [Deferred.ofValue, invoke, enter_run g1]
    obtain ⟨g1, g2⟩ := evCallFn_ok hΓ hB h hI (ht.append hcaps) he
    refine .inr (.inr ⟨g, vals.toArray ++ (caps.map (bv βs)).toArray, ?_, by simpa using g2⟩)
    simp [Deferred.ofValue, invoke, enter_run g1]
  · rename_i a r f
    split at he
    · rename_i x hx
      obtain ⟨y, hy, he⟩ := Res.to_bind he
      obtain ⟨rfl, rfl⟩ := Res.to_nowV he
      obtain ⟨hr, g, caps, rfl, hent, hcalls⟩ := hf
      refine .inr (.inr ⟨g, vals.toArray ++ caps, by simp [Deferred.ofValue, invoke, enter_run hent], ?_⟩)
      refine (hcalls w hI (Nat.le_trans hB.gz h.base) (Nat.le_refl _) (fun _ _ => rfl) (FO B βs obs w) x vals y (fun b hb => ?_) (cloArg_rep h (fun _ hb => hb) ht hx) hy).mono fun e w' ⟨v, h1, h2, h3⟩ => ?_
      · rcases hb with hb | hb
        · exact (h.notOwn hb).1
        · exact (h.own b hb).2
      · exact ⟨v, h1, βs, h.grown h3, RdV.flat_ hr h2⟩
    · exact (Res.to_fail he).elim
  · exact (Res.to_fail he).elim

/-- ANY OPERATION -/
theorem evalOp0_ok (hΓ : CtxOK P J Γ) (hB : B.Ok J) (h : Rep' P J B βs obs w) (hI : J.I w) {k : Nat} {o : Oper} {ρ : Operand → TV} {ρ' : Operand → Value} (hρ : ∀ x, TR P J B βs obs w (ρ x) (ρ' x)) (he : (evalOp0 Γ wr k o ρ obs).To (tv, obs')) :
    OpGives P J B βs obs wr w (execOp ρ' o) tv obs' := by
  obtain ⟨dst, op, type, pos, after, guard⟩ := o
  have hopt : ∀ (x : Option Operand), (∀ tv, x.map ρ = some tv → ∃ v, x.map ρ' = some v ∧ TR P J B βs obs w tv v) ∧ (x.map ρ = none → x.map ρ' = none) := fun x => by
    cases x with
    | none => exact ⟨fun tv q => (by cases q), fun _ => rfl⟩
    | some x => exact ⟨fun tv q => (by cases q; exact ⟨_, rfl, hρ x⟩), fun q => (by cases q)⟩
  unfold evalOp0 at he
  cases op <;> simp only at he
  case move x => exact (evMove_ok h (hρ x) he).op
  case assign x => exact (evMove_ok h (hρ x) he).op
  case pick c a b =>
    have := (evPick_ok (wr := wr) h (hρ c) (hρ a) (hρ b) he).op
    simpa [execOp] using this
  case alloc t => exact (evAlloc_ok hΓ h he).op
  case box t x => exact (evBox_ok hΓ h (hρ x) he).op
  case load t x => exact (evLoad_ok hΓ h (hρ x) he).op
  case store t x y => exact (evStore_ok hΓ h (hρ x) (hρ y) he).op
  case nilCheck x =>
    obtain ⟨rfl, rfl, ad, hv⟩ := evNilCheck_ok (hρ x) he
    have hx := hρ x
    refine .inl ⟨ρ' x, w, ?_, βs, h.step_refl _, hx⟩
    simp only [execOp, hv]
    rfl
  case fieldAddr s x f => exact (evFieldAddr_ok hΓ h (hρ x) he).op
  case field s x f => exact (evField_ok hΓ h (hρ x) he).op
  case indexAddr t x i => exact (evIndexAddr_ok hΓ h (hρ x) (hρ i) he).op
  case index t x i => exact (evIndex_ok hΓ h (hρ x) (hρ i) he).op
  case slice t x lo hi mx => exact (evSlice_ok hΓ h (hρ x) (hopt lo).1 (hopt lo).2 (hopt hi).1 (hopt hi).2 (hopt mx).2 (hopt mx).1 he).op
  case lookup t x i ok => exact (evLookup_ok hΓ h (hρ x) (hρ i) he).op
  case mapUpdate t m key x => exact (evMapUpdate_ok hΓ h (hρ m) (hρ key) (hρ x) he).op
  case makeMap t r => exact (evMakeMap_ok h (hopt r).2 he).op
  case makeFunc fn first caps =>
    unfold evMakeFunc at he
    split at he
    · rename_i g
      split at he
      · rename_i hz
        have hfirst : first = #[] := by
          rw [Array.length_toList] at hz
          exact Array.eq_empty_of_size_eq_zero hz
        split at he
        · rename_i ls hls
          obtain ⟨rfl, rfl⟩ := Res.to_nowV he
          obtain ⟨g1, g2⟩ := labelsOf_rep hρ hls
          refine (Gives.now (tv := .fn g ls) h (s := Instr.makeFunc (.func g) (first.map ρ') (caps.map ρ')) (v := .func (.func g) #[] (ls.map (bv βs)).toArray) ?_ ⟨g1, rfl⟩).op
          have e : caps.map ρ' = (ls.map (bv βs)).toArray := by rw [← g2]; apply Array.ext'; simp
          simp [Instr.makeFunc, hfirst, e]
        · exact (Res.to_fail he).elim
      · exact (Res.to_fail he).elim
    · exact (Res.to_fail he).elim
  case makeSlice t l c => exact (evMakeSlice_ok hΓ h (hρ l) (hρ c) he).op
  case buildSlice t len ps =>
    obtain ⟨q1, q2⟩ := parts_rep hρ ps.toList
    have := (evBuildSlice_ok hΓ h q1 q2 he).op
    have e : (ps.toList.map fun p => (p.1, ρ' p.2)).toArray = ps.map fun (i, x) => (i, ρ' x) := by apply Array.ext'; simp
    rw [e] at this
    exact this
  case build t ps =>
    obtain ⟨q1, q2⟩ := parts_rep hρ ps.toList
    have := (evBuild_ok hΓ h q1 q2 he).op
    have e : (ps.toList.map fun p => (p.1, ρ' p.2)).toArray = ps.map fun (i, x) => (i, ρ' x) := by apply Array.ext'; simp
    rw [e] at this
    exact this
  case extract x i => exact (evExtract_ok h (hρ x) he).op
  case convert s d x => exact (evConvert_ok hΓ h (hρ x) he).op
  case binOp op t x y u => exact (evBinOp_ok hΓ h (hρ x) (hρ y) he).op
  case unOp op t x => exact (evUnOp_ok h (hρ x) he).op
  case call c =>
    obtain ⟨callee, args, argTypes⟩ := c
    cases callee with
    | invoke x m => simp only at he; exact (Res.to_fail he).elim
    | value f =>
      simp only at he
      have := evCallV_ok hΓ hB h hI (hρ f) (TVs.of hρ args.toList) he
      have e : (args.toList.map ρ').toArray = args.map ρ' := by apply Array.ext'; simp
      rw [e] at this
      exact this
    | builtin b =>
      simp only at he
      unfold evBuiltin at he
      split at he
      · split at he
        · rename_i x t' hx ht
          obtain ⟨x', rfl⟩ : ∃ x', args = #[x'] := by
            obtain ⟨l⟩ := args
            match l, hx with
            | [x'], _ => exact ⟨x', rfl⟩
          obtain rfl : argTypes = #[t'] := by
            obtain ⟨l⟩ := argTypes
            simpa using ht
          simp at hx
          subst hx
          have := (evLen_ok (wr := wr) (ty := type) hΓ h (hρ x') he).op
          rw [show #[ρ' x'] = #[x'].map ρ' by simp] at this
          exact this
        · exact (Res.to_fail he).elim
      · split at he
        · rename_i x t' hx ht
          obtain ⟨x', rfl⟩ : ∃ x', args = #[x'] := by
            obtain ⟨l⟩ := args
            match l, hx with
            | [x'], _ => exact ⟨x', rfl⟩
          obtain rfl : argTypes = #[t'] := by
            obtain ⟨l⟩ := argTypes
            simpa using ht
          simp at hx
          subst hx
          have := (evCap_ok (wr := wr) (ty := type) hΓ h (hρ x') he).op
          rw [show #[ρ' x'] = #[x'].map ρ' by simp] at this
          exact this
        · exact (Res.to_fail he).elim
      · split at he
        · rename_i x y t' tx hx ht
          obtain ⟨x', y', rfl⟩ : ∃ x' y', args = #[x', y'] := by
            obtain ⟨l⟩ := args
            match l, hx with
            | [x', y'], _ => exact ⟨x', y', rfl⟩
          obtain rfl : argTypes = #[t', tx] := by
            obtain ⟨l⟩ := argTypes
            simpa using ht
          simp at hx
          obtain ⟨rfl, rfl⟩ := hx
          split at he
          · rename_i kn hkn
            have := (evAppendZ_ok (wr := wr) (ty := type) hΓ h hkn (hρ x') (hρ y') he).op
            rw [show #[ρ' x', ρ' y'] = #[x', y'].map ρ' by simp] at this
            exact this
          · have := (evAppend_ok (wr := wr) (ty := type) hΓ h (hρ x') (hρ y') he).op
            rw [show #[ρ' x', ρ' y'] = #[x', y'].map ρ' by simp] at this
            exact this
        · exact (Res.to_fail he).elim
      · split at he
        · rename_i x t' hx ht
          obtain ⟨x', rfl⟩ : ∃ x', args = #[x'] := by
            obtain ⟨l⟩ := args
            match l, hx with
            | [x'], _ => exact ⟨x', rfl⟩
          obtain rfl : argTypes = #[t'] := by
            obtain ⟨l⟩ := argTypes
            simpa using ht
          simp at hx
          subst hx
          have := (evClear_ok (wr := wr) (ty := type) hΓ h (hρ x') he).op
          rw [show #[ρ' x'] = #[x'].map ρ' by simp] at this
          exact this
        · exact (Res.to_fail he).elim
      · split at he
        · rename_i x y hx
          obtain ⟨x', y', rfl⟩ : ∃ x' y', args = #[x', y'] := by
            obtain ⟨l⟩ := args
            match l, hx with
            | [x', y'], _ => exact ⟨x', y', rfl⟩
          simp at hx
          obtain ⟨rfl, rfl⟩ := hx
          have := (evMinMax_ok (wr := wr) (ts := argTypes) (t := type) h (hρ x') (hρ y') he).op
          simp only [cond] at this
          rw [show #[ρ' x', ρ' y'] = #[x', y'].map ρ' by simp] at this
          exact this
        · exact (Res.to_fail he).elim
      · split at he
        · rename_i x y hx
          obtain ⟨x', y', rfl⟩ : ∃ x' y', args = #[x', y'] := by
            obtain ⟨l⟩ := args
            match l, hx with
            | [x', y'], _ => exact ⟨x', y', rfl⟩
          simp at hx
          obtain ⟨rfl, rfl⟩ := hx
          have := (evMinMax_ok (wr := wr) (ts := argTypes) (t := type) h (hρ x') (hρ y') he).op
          simp only [cond] at this
          rw [show #[ρ' x', ρ' y'] = #[x', y'].map ρ' by simp] at this
          exact this
        · exact (Res.to_fail he).elim
      · exact (Res.to_fail he).elim
  all_goals exact (Res.to_fail he).elim

end Go.Proofs.YtocgdpnealaoeaaDoor.Ev
