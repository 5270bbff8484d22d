/- The small evaluator's rule for an operation is right, whatever operation it is (this session's own). No condition. -/
import Derived.Test.YtcppmncmlhibhaaDoorEvJ
namespace Go.Proofs.YtcppmncmlhibhaaDoor.Ev
open Go.RowKit
set_option linter.unusedVariables false
set_option linter.unusedSimpArgs false

variable {P : Program} {J : Inv} {Γ : Ctx} {B : Base} {C : LBase} {βs : List Value} {st : St} {a : Act} {w w' : World} {obs obs' obs1 obs2 : List Ob} {wr : Nat → Bool} {tv : TV}

theorem RetsRep.flat_ {F F' : Nat → Prop} : ∀ {rs : List Lm} {y : OT rs} {vs : List Value}, rs.all Lm.flat = true → RetsRep w F rs y vs → RetsRep w F' rs y vs ∧ ownVals rs vs = []
  | [], y, vs, _, h => by
    have h : vs = [] := h
    subst h; exact ⟨rfl, rfl⟩
  | [.val k], y, _, hf, ⟨v, rfl, h⟩ => ⟨⟨v, rfl, RdV.flat_ (by simpa [Lm.flat] using hf) h⟩, rfl⟩
  | [.own e], y, _, hf, ⟨v, rfl, h⟩ => by simp [Lm.flat] at hf
  | .val k :: p :: os, y, _, hf, ⟨v, r, rfl, h1, h2⟩ => by
    rw [List.all_cons, Bool.and_eq_true] at hf
    obtain ⟨g1, g2⟩ := RetsRep.flat_ hf.2 h2
    exact ⟨⟨v, r, rfl, RdV.flat_ hf.1 h1, g1⟩, g2⟩
  | .own e :: p :: os, y, _, hf, ⟨v, r, rfl, h1, h2⟩ => by
    rw [List.all_cons, Bool.and_eq_true] at hf
    cases hf.1

theorem tvOf_rep {F S : Nat → Prop} {rvs : List RV} {vs : List Value} (hl : rvs.length = vs.length) (hr : ∀ (i : Nat) (h1 : i < rvs.length) (h2 : i < vs.length), RVRep w F βs rvs[i] vs[i]) : TVRep P J w F S βs (tvOf rvs) (tupV vs) := by
  have gen : ∀ (rvs : List RV) (vs : List Value), rvs.length = vs.length → (∀ (i : Nat) (h1 : i < rvs.length) (h2 : i < vs.length), RVRep w F βs rvs[i] vs[i]) → TVRep P J w F S βs (.tup rvs) (.tuple vs.toArray) := fun rvs vs hl hr =>
    ⟨_, rfl, by simp [hl], fun i hi => by
      have hi' : i < vs.length := by omega
      simpa [hi'] using hr i hi hi'⟩
  match rvs, vs, hl with
  | [], [], _ => exact gen [] [] rfl (fun i h => by cases h)
  | [r], [v], _ => exact RVRep.toTV (hr 0 (by simp) (by simp))
  | r :: r' :: rs, v :: v' :: vs, hl => exact gen _ _ hl hr

theorem callFn_ok (hΓ : CtxOK P J Γ) (hB : B.Ok J) (h : Rep' P J B βs obs w) (hI : J.I w) {g k : Nat} {F : Fn} (hg : FnOK P J g F) {tvs : List TV} {vals : List Value} (ht : TVs P J B βs obs w tvs vals)
    (hm : moved wr F.ps tvs obs = some obs1) {xs : PT F.ps} (hx : argsOf Γ k F.ps tvs obs obs1 = some xs) (hl : (if F.rs.all Lm.flat then some obs1 else lent wr F.ps tvs obs1) = some obs2) {y : OT F.rs} (hy : F.f k xs = some y) :
    Calls P g vals.toArray w fun e w' => ∃ βs' v, e = .returned v ∧ Step B βs obs wr w βs' (back F.rs y obs2).2 w' ∧ TVRep P J w' (Fz B βs' (back F.rs y obs2).2 w') B.S βs' (tvOf (back F.rs y obs2).1) v := by
  obtain ⟨hd, hlk, hnd, hgs, _, _⟩ := moved_ok h ⟨rfl, fun _ => .inl rfl⟩ (fun _ hb => hb) hm ht (fun _ _ _ => rfl)
  have hrel : FrzRel obs1 obs2 ∧ (∀ M, wr M = false → getOb obs2 M = getOb obs1 M) ∧ (F.rs.all Lm.flat = true ∨ ∃ o1, FrzRel obs1 o1 ∧ lent wr F.ps tvs o1 = some obs2) := by
    split at hl
    · rename_i hf
      cases hl; exact ⟨FrzRel.refl _, fun _ _ => rfl, .inl hf⟩
    · obtain ⟨q1, q2⟩ := lent_rel hl
      exact ⟨q1, q2, .inr ⟨obs1, FrzRel.refl _, hl⟩⟩
  obtain ⟨hrel, hlk2, hlent⟩ := hrel
  let flat := F.rs.all Lm.flat
  let gs := ownBs F.ps vals
  let B2 : Base := ⟨w, fun b => b ∈ gs, CF B βs obs obs1 obs2 flat w⟩
  have hgs' : ∀ b ∈ gs, Own βs obs b ∧ ¬ Own βs obs1 b := hgs
  have hcf : ∀ b, CF B βs obs obs1 obs2 flat w b → b < w.heap.size ∧ b ∉ gs := fun b hb => by
    rcases hb with hb | hb
    · have := h.notOwn hb
      exact ⟨this.1, fun q => this.2 (hgs' b q).1⟩
    · exact ⟨(h.own b (hd.own hb.1)).2, fun q => (hgs' b q).2 hb.1⟩
  have hB2 : B2.Ok J := ⟨hcf, hI, Nat.le_trans hB.gz h.base, fun b hb hq => by
    rcases (h.own b (hgs' b hq).1).1 with q | q
    · have := hB.gz; omega
    · exact hB.gzG b hb q⟩
  have hS : ∀ b, B.S b → B2.S b := fun b hb => ⟨Nat.lt_of_lt_of_le hb.1 h.base, fun q => by
    rcases (h.own b (hgs' b q).1).1 with q1 | q1
    · have := hb.1; omega
    · exact hb.2 q1⟩
  have hFz : ∀ b, Fz B βs obs w b → B2.S b := fun b hb => by
    have := h.notOwn hb
    exact ⟨this.1, fun q => this.2 (hgs' b q).1⟩
  have hFS : ∀ b, Own βs obs1 b → B2.S b := fun b hb => ⟨(h.own b (hd.own hb)).2, fun q => (hgs' b q).2 hb⟩
  have hargs := argsOf_rep (S' := B2.S) (flat := flat) hΓ h hd hrel hS hFz (fun b hb => hb.1) hFS ht hx hlent
  have hcall := hg.ok k B2 vals xs y hB2 hargs hnd (fun b hb => ⟨hb, (h.own b (hgs' b hb).1).2⟩) hy
  refine hcall.mono fun e w' hp => ?_
  obtain ⟨vs, rfl, hret, hnd2, hown2, hext⟩ := hp
  rw [ownRs_vals] at hnd2 hown2 hret
  -- what the results may be read of
  have hfin : ∃ F', RetsRep w' F' F.rs y vs ∧ ∀ b, F' b → (Fz B βs obs w b ∨ (Own βs obs1 b ∧ ¬ Own βs obs2 b) ∨ ((w.heap.size ≤ b ∨ b ∈ gs) ∧ b < w'.heap.size ∧ b ∉ ((ownVals F.rs vs).flatMap fun v => (bOf v).toList))) := by
    cases hfl : flat with
    | true => exact ⟨fun _ => False, (RetsRep.flat_ hfl hret).1, fun b hb => hb.elim⟩
    | false =>
      refine ⟨_, hret, fun b hb => ?_⟩
      rcases hb with (hb | hb) | hb
      · exact .inl hb
      · rcases hb.2 with q | q
        · rw [hfl] at q; cases q
        · exact .inr (.inl ⟨hb.1, q⟩)
      · exact .inr (.inr hb)
  obtain ⟨F', hret', hF'⟩ := hfin
  obtain ⟨o1, o2⟩ := ownObs_rep hret'
  obtain ⟨hstep, hFF⟩ := Rep'.called (wr := wr) h hd hrel (fun M hM hw => (hlk2 M hw).trans (hlk M hM hw)) hgs' hext.os hext.tape hext.output hext.size (fun b hb hn => hext.block b hb hn) o1 hnd2 hown2 o2 hF'
  have hbl : βs.length = obs2.length := by rw [h.obs.len, ← hd.1, ← hrel.1]
  rw [back_obs]
  obtain ⟨b1, b2⟩ := back_rep (obs := obs2) (βs := βs) (βf := βs ++ ownVals F.rs vs) hFF hret' (fun _ _ => .inr hFF) hbl (fun i hi => by
    rw [bv_app, if_neg (by omega), Nat.add_sub_cancel_left]; rfl) (Nat.le_refl _)
  exact ⟨_, _, rfl, hstep, tvOf_rep b1 b2⟩

/-! ### any operation -/
theorem constTV_rep {F S : Nat → Prop} (v : Value) : TVRep P J w F S βs (constTV v) v := by
  unfold constTV
  split
  · exact mk_int _ _
  · exact mk_bool _
  · exact mk_str _
  · rfl
  · trivial
theorem Rep.ev (h : Rep P J B C βs st a w) (x : Operand) : TR P J B βs st.obs w (st.ev x) (a.eval x) := by
  cases x with
  | tmp t => exact h.tmps t
  | const v => exact constTV_rep v
  | func f => exact ⟨fun L hL => (by cases hL), rfl⟩
  | global g => trivial

theorem TVs.of {ρ : Operand → TV} {ρ' : Operand → Value} (hρ : ∀ x, TR P J B βs obs w (ρ x) (ρ' x)) : ∀ (l : List Operand), TVs P J B βs obs w (l.map ρ) (l.map ρ')
  | [] => rfl
  | x :: r => ⟨_, _, rfl, hρ x, TVs.of hρ r⟩

/-- what is known behind an operation -/
def Behind (P : Program) (J : Inv) (B : Base) (βs : List Value) (obs : List Ob) (wr : Nat → Bool) (w : World) (tv : TV) (obs' : List Ob) (v : Value) (w' : World) : Prop :=
  ∃ βs', Step B βs obs wr w βs' obs' w' ∧ TVRep P J w' (Fz B βs' obs' w') B.S βs' tv v

def OpGives (P : Program) (J : Inv) (B : Base) (βs : List Value) (obs : List Ob) (wr : Nat → Bool) (w : World) (s : Sem Next) (tv : TV) (obs' : List Ob) : Prop :=
  (∃ v w', s.run P w = .ok (.value v) w' ∧ Behind P J B βs obs wr w tv obs' v w') ∨
  (∃ w', s.run P w = .ok .skip w' ∧ Behind P J B βs obs wr w tv obs' undef w') ∨
  ∃ f args, s.run P w = .ok (.enter f args) w ∧ Calls P f args w fun e w' => ∃ v, e = .returned v ∧ Behind P J B βs obs wr w tv obs' v w'
theorem Gives.op {s : Sem Value} (h : Gives P J B βs obs wr w s tv obs') : OpGives P J B βs obs wr w (do pure (.value (← s))) tv obs' := by
  obtain ⟨b, v, w', h1, h2, h3⟩ := h
  exact .inl ⟨v, w', by simp [h1], b, h2, h3⟩
theorem GivesU.op {s : Sem Unit} (h : GivesU P J B βs obs wr w s tv obs') : OpGives P J B βs obs wr w (do s; pure .skip) tv obs' := by
  obtain ⟨b, w', h1, h2, h3⟩ := h
  exact .inr (.inl ⟨w', by simp [h1], b, h2, by rw [h3]; rfl⟩)

theorem labelsOf_rep {ρ : Operand → TV} {ρ' : Operand → Value} (hρ : ∀ x, TR P J B βs obs w (ρ x) (ρ' x)) : ∀ {l : List Operand} {ls : List Nat}, labelsOf (l.map ρ) = some ls →
    (∀ L ∈ ls, L < βs.length ∧ ∃ b, bv βs L = .pointer (some ⟨b, 0, none⟩)) ∧ l.map ρ' = ls.map (bv βs)
  | [], ls, h => by cases h; exact ⟨fun L hL => (by cases hL), rfl⟩
  | x :: r, ls, h => by
    simp only [List.map_cons, labelsOf] at h
    split at h
    · rename_i L ls' hL hls
      cases h
      obtain ⟨g1, g2⟩ := labelsOf_rep hρ hls
      have := hρ x
      have h1 : ρ x = .ptr L 0 := by
        unfold labelOf at hL
        split at hL
        · rename_i heq; cases hL; exact heq
        · cases hL
      rw [h1] at this
      obtain ⟨q1, b, q2, q3⟩ := this
      refine ⟨fun M hM => ?_, by rw [List.map_cons, List.map_cons, g2, q3, q2]⟩
      rcases List.mem_cons.1 hM with rfl | hM
      · exact ⟨q1, b, q2⟩
      · exact g1 M hM
    · cases h

theorem enter_run {g : Nat} {args : Array Value} (h : ∃ fn, P.funcs[g]? = some fn ∧ fn.body.isSome = true ∧ (fn.name == "runtime.NumGoroutine") = false) : (callFunc g args).run P w = .ok (.enter g args) w := by
  obtain ⟨fn, h1, h2, h3⟩ := h
  obtain ⟨c, hc⟩ := Option.isSome_iff_exists.1 h2
  exact Go.Proofs.enters_of h1 h3 hc args w

theorem parts_rep {ρ : Operand → TV} {ρ' : Operand → Value} (hρ : ∀ x, TR P J B βs obs w (ρ x) (ρ' x)) (ps : List (Nat × Operand)) :
    (ps.map fun p => (p.1, ρ p.2)).length = (ps.map fun p => (p.1, ρ' p.2)).length ∧ ∀ (j : Nat) (h1 : j < (ps.map fun p => (p.1, ρ p.2)).length) (h2 : j < (ps.map fun p => (p.1, ρ' p.2)).length),
      (ps.map fun p => (p.1, ρ p.2))[j].1 = (ps.map fun p => (p.1, ρ' p.2))[j].1 ∧ TR P J B βs obs w (ps.map fun p => (p.1, ρ p.2))[j].2 (ps.map fun p => (p.1, ρ' p.2))[j].2 := by
  refine ⟨by simp, fun j h1 h2 => ?_⟩
  simp only [List.getElem_map]
  exact ⟨trivial, hρ _⟩

theorem evCallFn_ok (hΓ : CtxOK P J Γ) (hB : B.Ok J) (h : Rep' P J B βs obs w) (hI : J.I w) {k g : Nat} {tvs : List TV} {vals : List Value} (ht : TVs P J B βs obs w tvs vals) (he : (evCallFn Γ wr k g tvs obs).To (tv, obs')) :
    (∃ fn, P.funcs[g]? = some fn ∧ fn.body.isSome = true ∧ (fn.name == "runtime.NumGoroutine") = false) ∧ Calls P g vals.toArray w fun e w' => ∃ v, e = .returned v ∧ Behind P J B βs obs wr w tv obs' v w' := by
  unfold evCallFn at he
  split at he
  · exact (Res.to_fail he).elim
  · rename_i F hF
    split at he
    · exact (Res.to_fail he).elim
    · rename_i obs1 hm
      split at he
      · rename_i xs obs2 hx hl
        obtain ⟨y, hy, he⟩ := Res.to_bind he
        obtain ⟨rfl, rfl⟩ := Res.to_nowV he
        have hg := hΓ.fn _ _ hF
        exact ⟨hg.enters, (callFn_ok hΓ hB h hI hg ht hm hx hl hy).mono fun e w' ⟨b, v, h1, h2, h3⟩ => ⟨v, h1, b, h2, h3⟩⟩
      · exact (Res.to_fail he).elim

/-- memory has only grown -/
theorem Rep'.grown (h : Rep' P J B βs obs w) {wr : Nat → Bool} (hb : Below w.heap.size w w') : Step B βs obs wr w βs obs w' := by
  have hF : ∀ b, Fz B βs obs w b → Fz B βs obs w' b ∧ w'.heap[b]? = w.heap[b]? := fun b hbz => by
    have h1 := h.notOwn hbz
    refine ⟨?_, hb.block b h1.1⟩
    rcases hbz with q | q
    · exact .inl q
    · exact .inr ⟨q.1, Nat.lt_of_lt_of_le q.2.1 hb.size, q.2.2⟩
  exact ⟨hb.os, hb.tape, hb.output, hb.size, fun b hlt _ => hb.block b hlt, Nat.le_refl _, fun _ _ => rfl, h.obs.len, fun b ho => ⟨.inl ho, Nat.lt_of_lt_of_le (h.own b ho).2 hb.size⟩, h.inj, fun _ _ _ => rfl,
    fun L hL => (h.obs.rep L hL).mono hF (Nat.le_refl _) (fun _ _ => rfl) (fun b hl hbv => hb.block b (h.own b ⟨L, hL, hl, hbv⟩).2)⟩

/-- an array of the call's own that is written in place -/
theorem Rep'.inplace (h : Rep' P J B βs obs w) {wr : Nat → Bool} {L : Nat} {e : Kd} {l l' : List e.T} (ho : getOb obs L = .arr e l) (hw : wr L = true) (hos : w'.os = w.os) (htp : w'.tape = w.tape) (hout : w'.output = w.output) (hsz : w.heap.size ≤ w'.heap.size)
    (hblk : ∀ b, b < w.heap.size → bOf (bv βs L) ≠ some b → w'.heap[b]? = w.heap[b]?) (hr : ObRep w' (Fz B βs obs w) [] (bv βs L) (.arr e l')) : Step B βs obs wr w βs (obs.set L (.arr e l')) w' := by
  have hlen := h.obs.len
  have hL : L < obs.length := getOb_live_lt (by rw [ho]; rfl)
  have hLb : L < βs.length := by omega
  have hlive : ∀ M, (getOb (obs.set L (.arr e l')) M).live = (getOb obs M).live := fun M => by
    rw [getOb_set hL]
    by_cases q : L = M
    · subst q; rw [if_pos rfl, ho]; rfl
    · rw [if_neg q]
  have hown : ∀ b, Own βs (obs.set L (.arr e l')) b → Own βs obs b := by
    rintro b ⟨M, hM, h1, h2⟩
    exact ⟨M, hM, by rw [← hlive M]; exact h1, h2⟩
  have hnot : ∀ b, Fz B βs obs w b → bOf (bv βs L) ≠ some b := fun b hb q => (h.notOwn hb).2 ⟨L, hLb, by rw [ho]; rfl, q⟩
  have hF : ∀ b, Fz B βs obs w b → Fz B βs (obs.set L (.arr e l')) w' b ∧ w'.heap[b]? = w.heap[b]? := fun b hb => by
    refine ⟨?_, hblk b (h.notOwn hb).1 (hnot b hb)⟩
    rcases hb with q | q
    · exact .inl q
    · exact .inr ⟨q.1, Nat.lt_of_lt_of_le q.2.1 hsz, fun hn => q.2.2 (hown b hn)⟩
  refine ⟨hos, htp, hout, hsz, fun b hb hn => hblk b hb fun q => hn ⟨L, hLb, by rw [ho]; rfl, q⟩, Nat.le_refl _, fun _ _ => rfl, by simpa using hlen, fun b hb => ⟨.inl (hown b hb), Nat.lt_of_lt_of_le (h.own b (hown b hb)).2 hsz⟩, fun M M' b hM hM' h1 h2 h3 h4 => ?_, fun M hM hwM => ?_, fun M hM => ?_⟩
  · rw [hlive] at h1 h2
    exact h.inj M M' b hM hM' h1 h2 h3 h4
  · rw [getOb_set hL, if_neg]
    rintro rfl
    rw [hw] at hwM; cases hwM
  · rw [getOb_set hL]
    by_cases q : L = M
    · subst q
      rw [if_pos rfl]
      exact hr.mono (fun b hb => ⟨(hF b hb).1, rfl⟩) (Nat.zero_le _) (fun _ q => by cases q) (fun _ _ _ => rfl)
    · rw [if_neg q]
      refine (h.obs.rep M hM).mono hF (Nat.le_refl _) (fun _ _ => rfl) (fun b hl hbv => ?_)
      have ho' : Own βs obs b := ⟨M, hM, hl, hbv⟩
      exact hblk b (h.own b ho').2 fun q2 => q (h.inj L M b hLb hM (by rw [ho]; rfl) hl q2 hbv)
theorem fnsOf_rep : ∀ {tvs : List TV} {vals : List Value} {gs : List Nat}, TVs P J B βs obs w tvs vals → fnsOf tvs = some gs → vals = gs.map fun g => Value.func (.func g) #[] #[]
  | [], vals, gs, ht, hf => by
    have ht : vals = [] := ht
    subst ht
    cases hf; rfl
  | tv :: r, vals, gs, ht, hf => by
    obtain ⟨v, vr, rfl, h1, h2⟩ := ht
    unfold fnsOf at hf
    split at hf
    · rename_i heq; cases heq
    · rename_i g r' heq
      obtain ⟨rfl, rfl⟩ := List.cons.inj heq
      split at hf
      · rename_i gs' hgs
        cases hf
        rw [List.map_cons, ← fnsOf_rep h2 hgs]
        rw [show v = _ from h1.2]
        rfl
      · cases hf
    · cases hf
theorem evCallIo_ok (hΓ : CtxOK P J Γ) (hB : B.Ok J) (h : Rep' P J B βs obs w) (hI : J.I w) {k g : Nat} {F : IoFn} (hg : IoOK P J g F) {tvs : List TV} {vals : List Value} (ht : TVs P J B βs obs w tvs vals) (he : (evCallIo Γ wr k F tvs obs).To (tv, obs')) :
    Calls P g vals.toArray w fun e w' => ∃ v, e = .returned v ∧ Behind P J B βs obs wr w tv obs' v w' := by
  unfold evCallIo at he
  cases tvs with
  | nil => exact (Res.to_fail he).elim
  | cons tv0 r =>
  obtain ⟨v, vr, rfl, ht0, htr⟩ := ht
  dsimp only at he
  cases hfn : fnsOf r with
  | none => rw [hfn] at he; exact (Res.to_fail he).elim
  | some gs =>
  rw [hfn] at he
  dsimp only at he
  obtain rfl := fnsOf_rep htr hfn
  let B2 : Base := ⟨w, fun b => bOf v = some b, Fz B βs obs w⟩
  have nil_case : v = .slice none 0 0 → ∀ l', F.f k [] gs = some l' → Calls P g (v :: gs.map fun g => Value.func (.func g) #[] #[]).toArray w fun e w' => ∃ v, e = .returned v ∧ Behind P J B βs obs wr w (.tup []) obs v w' := fun hv l' hy => by
    have hB2 : B2.Ok J := ⟨fun b hb => ⟨(h.notOwn hb).1, fun q => by
      have q : bOf v = some b := q
      rw [hv] at q; cases q⟩, hI, Nat.le_trans hB.gz h.base, fun b hb q => by
      have q : bOf v = some b := q
      rw [hv] at q; cases q⟩
    refine (hg.ok k B2 (Fz B βs obs w) v [] gs l' hB2 hB2.f0 (.inl ⟨hv, rfl⟩) (fun b q => by rw [hv] at q; cases q) hy).mono fun e w' ⟨h1, hext, _⟩ => ?_
    exact ⟨_, h1, βs, h.grown ⟨hext.os, hext.tape, hext.output, hext.size, fun b hb' => hext.block b hb' (fun q => by
      have q : bOf v = some b := q
      rw [hv] at q; cases q)⟩, ⟨#[], rfl, rfl, fun i hi => by cases hi⟩⟩
  cases tv0 with
  | arr L =>
    dsimp only at he
    cases hwr : wr L with
    | false => rw [hwr] at he; exact (Res.to_fail he).elim
    | true =>
    rw [hwr] at he
    split at he
    rotate_left
    · exact (Res.to_fail he).elim
    rename_i e' l0 _ ho
    split at he
    rotate_left
    · exact (Res.to_fail he).elim
    rename_i l hc
    obtain ⟨l', hy, he⟩ := Res.to_bind he
    obtain ⟨rfl, rfl⟩ := Res.to_nowV he
    obtain ⟨he0, hle⟩ := cast_slice hc
    subst he0
    obtain rfl : l0 = l := hle
    obtain ⟨hLb, hvL⟩ := ht0
    subst hvL
    have hown : ∀ b, bOf (bv βs L) = some b → Own βs obs b := fun b q => ⟨L, hLb, by rw [ho]; rfl, q⟩
    have hB2 : B2.Ok J := ⟨fun b hb => ⟨(h.notOwn hb).1, fun q => (h.notOwn hb).2 (hown b q)⟩, hI, Nat.le_trans hB.gz h.base, fun b hb q => by
      rcases (h.own b (hown b q)).1 with q | q
      · have := hB.gz; omega
      · exact hB.gzG b hb q⟩
    have hrep := h.obs.rep L hLb
    rw [ho] at hrep
    have hrep0 : ObRep w (Fz B βs obs w) [] (bv βs L) (.arr F.e l0) := by
      rcases hrep with q | q
      · exact .inl q
      · exact .inr q
    refine (hg.ok k B2 (Fz B βs obs w) (bv βs L) l0 gs l' hB2 hB2.f0 hrep0 (fun b q => ⟨q, (h.own b (hown b q)).2⟩) hy).mono fun e w' ⟨h1, hext, h2⟩ => ?_
    exact ⟨_, h1, βs, h.inplace ho hwr hext.os hext.tape hext.output hext.size (fun b hb hn => hext.block b hb hn) h2, ⟨#[], rfl, rfl, fun i hi => by cases hi⟩⟩
  | nil =>
    obtain ⟨l', hy, he⟩ := Res.to_bind he
    obtain ⟨rfl, rfl⟩ := Res.to_nowV he
    exact nil_case ht0 l' hy
  | nilk e =>
    obtain ⟨l', hy, he⟩ := Res.to_bind he
    obtain ⟨rfl, rfl⟩ := Res.to_nowV he
    exact nil_case ht0 l' hy
  | _ => exact (Res.to_fail he).elim

theorem cloArg_rep {F' : Nat → Prop} (h : Rep' P J B βs obs w) (hF : ∀ b, FO B βs obs w b → F' b) {a : Kd} {tvs : List TV} {vals : List Value} {x : a.T} (ht : TVs P J B βs obs w tvs vals) (hx : cloArg a tvs obs = some x) : CloArgs w F' a vals x := by
  unfold cloArg at hx
  split at hx
  · obtain ⟨v, r, rfl, h1, h2⟩ := ht
    have h2 : r = [] := h2
    subst h2
    have hv := RdV.mono (fun b hb => ⟨hF b hb, rfl⟩) (toVal_rep h.obs h1 hx)
    cases a with
    | pair p q => cases hv.1
    | _ => exact ⟨v, rfl, hv⟩
  · obtain ⟨v, r, rfl, h1, v', r', rfl, h2, h3⟩ := ht
    have h3 : r' = [] := h3
    subst h3
    split at hx
    · split at hx
      · rename_i u u' e1 e2
        cases hx
        exact ⟨v, v', rfl, RdV.mono (fun b hb => ⟨hF b hb, rfl⟩) (toVal_rep h.obs h1 e1), RdV.mono (fun b hb => ⟨hF b hb, rfl⟩) (toVal_rep h.obs h2 e2)⟩
      · cases hx
    · cases hx
  · cases hx

theorem TVs.append {l1 l2 : List TV} {v1 v2 : List Value} (h1 : TVs P J B βs obs w l1 v1) (h2 : TVs P J B βs obs w l2 v2) : TVs P J B βs obs w (l1 ++ l2) (v1 ++ v2) := by
  induction l1 generalizing v1 with
  | nil =>
    have h1 : v1 = [] := h1
    subst h1; exact h2
  | cons t l ih =>
    obtain ⟨v, r, rfl, a, b⟩ := h1
    exact ⟨v, r ++ v2, rfl, a, ih b⟩

theorem evCallV_ok (hΓ : CtxOK P J Γ) (hB : B.Ok J) (h : Rep' P J B βs obs w) (hI : J.I w) {k : Nat} {f : TV} {vf : Value} {tvs : List TV} {vals : List Value} (hf : TR P J B βs obs w f vf) (ht : TVs P J B βs obs w tvs vals) (he : (evCallV Γ wr k f tvs obs).To (tv, obs')) :
    OpGives P J B βs obs wr w (do let d ← Deferred.ofValue vf vals.toArray; invoke d.target d.args) tv obs' := by
  unfold evCallV at he
  split at he
  · rename_i g caps
    obtain ⟨h1, rfl⟩ := hf
    have hcaps : TVs P J B βs obs w (caps.map fun L => TV.ptr L 0) (caps.map (bv βs)) := by
      clear he
      induction caps with
      | nil => rfl
      | cons L Ls ih =>
        obtain ⟨q1, b, q2⟩ := h1 L (List.mem_cons_self ..)
        exact ⟨_, _, rfl, ⟨q1, b, q2, q2⟩, ih (fun M hM => h1 M (List.mem_cons_of_mem _ hM))⟩
    split at he
    · rename_i F hF
      have g1 := (hΓ.io _ _ hF).enters
      have g2 := evCallIo_ok hΓ hB h hI (hΓ.io _ _ hF) (ht.append hcaps) he
      refine .inr (.inr ⟨g, vals.toArray ++ (caps.map (bv βs)).toArray, ?_, by simpa using g2⟩)
      simp [Deferred.ofValue, invoke, enter_run g1]
    obtain ⟨g1, g2⟩ := evCallFn_ok hΓ hB h hI (ht.append hcaps) he
    refine .inr (.inr ⟨g, vals.toArray ++ (caps.map (bv βs)).toArray, ?_, by simpa using g2⟩)
    simp [Deferred.ofValue, invoke, enter_run g1]
  · rename_i a r f
    split at he
    · rename_i x hx
      obtain ⟨y, hy, he⟩ := Res.to_bind he
      obtain ⟨rfl, rfl⟩ := Res.to_nowV he
      obtain ⟨hr, g, caps, rfl, hent, hcalls⟩ := hf
      refine .inr (.inr ⟨g, vals.toArray ++ caps, by simp [Deferred.ofValue, invoke, enter_run hent], ?_⟩)
      refine (hcalls w hI (Nat.le_trans hB.gz h.base) (Nat.le_refl _) (fun _ _ => rfl) (FO B βs obs w) x vals y (fun b hb => ?_) (cloArg_rep h (fun _ hb => hb) ht hx) hy).mono fun e w' ⟨v, h1, h2, h3⟩ => ?_
      · rcases hb with hb | hb
        · exact (h.notOwn hb).1
        · exact (h.own b hb).2
      · exact ⟨v, h1, βs, h.grown h3, RdV.flat_ hr h2⟩
    · exact (Res.to_fail he).elim
  · exact (Res.to_fail he).elim

/-- ANY OPERATION -/
theorem evalOp0_ok (hΓ : CtxOK P J Γ) (hB : B.Ok J) (h : Rep' P J B βs obs w) (hI : J.I w) {k : Nat} {o : Oper} {ρ : Operand → TV} {ρ' : Operand → Value} (hρ : ∀ x, TR P J B βs obs w (ρ x) (ρ' x)) (he : (evalOp0 Γ wr k o ρ obs).To (tv, obs')) :
    OpGives P J B βs obs wr w (execOp ρ' o) tv obs' := by
  obtain ⟨dst, op, type, pos, after, guard⟩ := o
  have hopt : ∀ (x : Option Operand), (∀ tv, x.map ρ = some tv → ∃ v, x.map ρ' = some v ∧ TR P J B βs obs w tv v) ∧ (x.map ρ = none → x.map ρ' = none) := fun x => by
    cases x with
    | none => exact ⟨fun tv q => (by cases q), fun _ => rfl⟩
    | some x => exact ⟨fun tv q => (by cases q; exact ⟨_, rfl, hρ x⟩), fun q => (by cases q)⟩
  unfold evalOp0 at he
  cases op <;> simp only at he
  case move x => exact (evMove_ok h (hρ x) he).op
  case assign x => exact (evMove_ok h (hρ x) he).op
  case pick c a b =>
    have := (evPick_ok (wr := wr) h (hρ c) (hρ a) (hρ b) he).op
    simpa [execOp] using this
  case alloc t => exact (evAlloc_ok hΓ h he).op
  case box t x => exact (evBox_ok hΓ h (hρ x) he).op
  case load t x => exact (evLoad_ok hΓ h (hρ x) he).op
  case store t x y => exact (evStore_ok hΓ h (hρ x) (hρ y) he).op
  case nilCheck x =>
    obtain ⟨rfl, rfl, ad, hv⟩ := evNilCheck_ok (hρ x) he
    have hx := hρ x
    refine .inl ⟨ρ' x, w, ?_, βs, h.step_refl _, hx⟩
    simp only [execOp, hv]
    rfl
  case fieldAddr s x f => exact (evFieldAddr_ok hΓ h (hρ x) he).op
  case field s x f => exact (evField_ok hΓ h (hρ x) he).op
  case indexAddr t x i => exact (evIndexAddr_ok hΓ h (hρ x) (hρ i) he).op
  case index t x i => exact (evIndex_ok hΓ h (hρ x) (hρ i) he).op
  case slice t x lo hi mx => exact (evSlice_ok hΓ h (hρ x) (hopt lo).1 (hopt lo).2 (hopt hi).1 (hopt hi).2 (hopt mx).2 (hopt mx).1 he).op
  case lookup t x i ok => exact (evLookup_ok hΓ h (hρ x) (hρ i) he).op
  case mapUpdate t m key x => exact (evMapUpdate_ok hΓ h (hρ m) (hρ key) (hρ x) he).op
  case makeMap t r => exact (evMakeMap_ok h (hopt r).2 he).op
  case makeFunc fn first caps =>
    unfold evMakeFunc at he
    split at he
    · rename_i g
      split at he
      · rename_i hz
        have hfirst : first = #[] := by
          rw [Array.length_toList] at hz
          exact Array.eq_empty_of_size_eq_zero hz
        split at he
        · rename_i ls hls
          obtain ⟨rfl, rfl⟩ := Res.to_nowV he
          obtain ⟨g1, g2⟩ := labelsOf_rep hρ hls
          refine (Gives.now (tv := .fn g ls) h (s := Instr.makeFunc (.func g) (first.map ρ') (caps.map ρ')) (v := .func (.func g) #[] (ls.map (bv βs)).toArray) ?_ ⟨g1, rfl⟩).op
          have e : caps.map ρ' = (ls.map (bv βs)).toArray := by rw [← g2]; apply Array.ext'; simp
          simp [Instr.makeFunc, hfirst, e]
        · exact (Res.to_fail he).elim
      · exact (Res.to_fail he).elim
    · exact (Res.to_fail he).elim
  case makeSlice t l c => exact (evMakeSlice_ok hΓ h (hρ l) (hρ c) he).op
  case buildSlice t len ps =>
    obtain ⟨q1, q2⟩ := parts_rep hρ ps.toList
    have := (evBuildSlice_ok hΓ h q1 q2 he).op
    have e : (ps.toList.map fun p => (p.1, ρ' p.2)).toArray = ps.map fun (i, x) => (i, ρ' x) := by apply Array.ext'; simp
    rw [e] at this
    exact this
  case build t ps =>
    obtain ⟨q1, q2⟩ := parts_rep hρ ps.toList
    have := (evBuild_ok hΓ h q1 q2 he).op
    have e : (ps.toList.map fun p => (p.1, ρ' p.2)).toArray = ps.map fun (i, x) => (i, ρ' x) := by apply Array.ext'; simp
    rw [e] at this
    exact this
  case extract x i => exact (evExtract_ok h (hρ x) he).op
  case convert s d x => exact (evConvert_ok hΓ h (hρ x) he).op
  case binOp op t x y u => exact (evBinOp_ok hΓ h (hρ x) (hρ y) he).op
  case unOp op t x => exact (evUnOp_ok h (hρ x) he).op
  case call c =>
    obtain ⟨callee, args, argTypes⟩ := c
    cases callee with
    | invoke x m => simp only at he; exact (Res.to_fail he).elim
    | value f =>
      simp only at he
      have := evCallV_ok hΓ hB h hI (hρ f) (TVs.of hρ args.toList) he
      have e : (args.toList.map ρ').toArray = args.map ρ' := by apply Array.ext'; simp
      rw [e] at this
      exact this
    | builtin b =>
      simp only at he
      unfold evBuiltin at he
      split at he
      · split at he
        · rename_i x t' hx ht
          obtain ⟨x', rfl⟩ : ∃ x', args = #[x'] := by
            obtain ⟨l⟩ := args
            match l, hx with
            | [x'], _ => exact ⟨x', rfl⟩
          obtain rfl : argTypes = #[t'] := by
            obtain ⟨l⟩ := argTypes
            simpa using ht
          simp at hx
          subst hx
          have := (evLen_ok (wr := wr) (ty := type) hΓ h (hρ x') he).op
          rw [show #[ρ' x'] = #[x'].map ρ' by simp] at this
          exact this
        · exact (Res.to_fail he).elim
      · split at he
        · rename_i x t' hx ht
          obtain ⟨x', rfl⟩ : ∃ x', args = #[x'] := by
            obtain ⟨l⟩ := args
            match l, hx with
            | [x'], _ => exact ⟨x', rfl⟩
          obtain rfl : argTypes = #[t'] := by
            obtain ⟨l⟩ := argTypes
            simpa using ht
          simp at hx
          subst hx
          have := (evCap_ok (wr := wr) (ty := type) hΓ h (hρ x') he).op
          rw [show #[ρ' x'] = #[x'].map ρ' by simp] at this
          exact this
        · exact (Res.to_fail he).elim
      · split at he
        · rename_i x y t' tx hx ht
          obtain ⟨x', y', rfl⟩ : ∃ x' y', args = #[x', y'] := by
            obtain ⟨l⟩ := args
            match l, hx with
            | [x', y'], _ => exact ⟨x', y', rfl⟩
          obtain rfl : argTypes = #[t', tx] := by
            obtain ⟨l⟩ := argTypes
            simpa using ht
          simp at hx
          obtain ⟨rfl, rfl⟩ := hx
          split at he
          · rename_i kn hkn
            have := (evAppendZ_ok (wr := wr) (ty := type) hΓ h hkn (hρ x') (hρ y') he).op
            rw [show #[ρ' x', ρ' y'] = #[x', y'].map ρ' by simp] at this
            exact this
          · have := (evAppend_ok (wr := wr) (ty := type) hΓ h (hρ x') (hρ y') he).op
            rw [show #[ρ' x', ρ' y'] = #[x', y'].map ρ' by simp] at this
            exact this
        · exact (Res.to_fail he).elim
      · split at he
        · rename_i x t' hx ht
          obtain ⟨x', rfl⟩ : ∃ x', args = #[x'] := by
            obtain ⟨l⟩ := args
            match l, hx with
            | [x'], _ => exact ⟨x', rfl⟩
          obtain rfl : argTypes = #[t'] := by
            obtain ⟨l⟩ := argTypes
            simpa using ht
          simp at hx
          subst hx
          have := (evClear_ok (wr := wr) (ty := type) hΓ h (hρ x') he).op
          rw [show #[ρ' x'] = #[x'].map ρ' by simp] at this
          exact this
        · exact (Res.to_fail he).elim
      · split at he
        · rename_i x y hx
          obtain ⟨x', y', rfl⟩ : ∃ x' y', args = #[x', y'] := by
            obtain ⟨l⟩ := args
            match l, hx with
            | [x', y'], _ => exact ⟨x', y', rfl⟩
          simp at hx
          obtain ⟨rfl, rfl⟩ := hx
          have := (evMinMax_ok (wr := wr) (ts := argTypes) (t := type) h (hρ x') (hρ y') he).op
          simp only [cond] at this
          rw [show #[ρ' x', ρ' y'] = #[x', y'].map ρ' by simp] at this
          exact this
        · exact (Res.to_fail he).elim
      · split at he
        · rename_i x y hx
          obtain ⟨x', y', rfl⟩ : ∃ x' y', args = #[x', y'] := by
            obtain ⟨l⟩ := args
            match l, hx with
            | [x', y'], _ => exact ⟨x', y', rfl⟩
          simp at hx
          obtain ⟨rfl, rfl⟩ := hx
          have := (evMinMax_ok (wr := wr) (ts := argTypes) (t := type) h (hρ x') (hρ y') he).op
          simp only [cond] at this
          rw [show #[ρ' x', ρ' y'] = #[x', y'].map ρ' by simp] at this
          exact this
        · exact (Res.to_fail he).elim
      · exact (Res.to_fail he).elim
  all_goals exact (Res.to_fail he).elim

end Go.Proofs.YtcppmncmlhibhaaDoor.Ev
