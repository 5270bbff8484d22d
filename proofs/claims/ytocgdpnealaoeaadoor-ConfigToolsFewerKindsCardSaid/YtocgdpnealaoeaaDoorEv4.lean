/- The small evaluator is right: new arrays that are plain data from the beginning (this session's own). No condition. -/
import Derived.Test.YtocgdpnealaoeaaDoorEvX
namespace Go.Proofs.YtocgdpnealaoeaaDoor.Ev
open Go.RowKit
set_option linter.unusedVariables false
set_option linter.unusedSimpArgs false

variable {P : Program} {J : Inv} {Γ : Ctx} {B : Base} {C : LBase} {βs : List Value} {st : St} {a : Act} {w w' : World} {obs obs' : List Ob} {wr : Nat → Bool} {tv : TV}

theorem boxesBelow_get {n : Nat} : ∀ {l : List Ob}, boxesBelow n l = true → ∀ (i : Nat) (cs : List RV), l[i]? = some (.box cs) → ∀ r ∈ cs, rvBelow n r = true
  | [], _, i, cs, hi => by cases hi
  | o :: l, h, i, cs, hi => by
    cases i with
    | zero =>
      simp at hi
      subst hi
      simp only [boxesBelow, Bool.and_eq_true] at h
      exact List.all_eq_true.1 h.1
    | succ i =>
      refine boxesBelow_get (l := l) ?_ i cs (by simpa using hi)
      cases o <;> simp only [boxesBelow, Bool.and_eq_true] at h <;> first | exact h.2 | exact h

theorem forget_ok (h : Rep' P J B βs obs w) {βs' : List Value} {v : Value} {p : TV × List Ob} (hs : Step B βs obs wr w βs' p.2 w') (ht : TVRep P J w' (Fz B βs' p.2 w') B.S βs' p.1 v) (hf : forget obs.length p = some (tv, obs')) :
    ∃ βs1, Step B βs obs wr w βs1 obs' w' ∧ TVRep P J w' (Fz B βs1 obs' w') B.S βs1 tv v := by
  obtain ⟨tv0, ob0⟩ := p
  have same : some (tv0, ob0) = some (tv, obs') → ∃ βs1, Step B βs obs wr w βs1 obs' w' ∧ TVRep P J w' (Fz B βs1 obs' w') B.S βs1 tv v := fun q => by
    cases q
    exact ⟨βs', hs, ht⟩
  unfold forget at hf
  split at hf
  · rename_i L heq
    obtain rfl : tv0 = .arr L := heq
    split at hf
    · rename_i e l ho
      have ho : getOb ob0 L = .arr e l := ho
      split at hf
      · rename_i hck
        simp only [Bool.and_eq_true] at hck
        obtain ⟨⟨c1, c2⟩, c3⟩ := hck
        have c1 : L + 1 = ob0.length := Nat.eq_of_beq_eq_true c1
        have c2 : obs.length ≤ L := Nat.le_of_ble_eq_true c2
        cases hf
        have hs2 : Step B βs obs wr w βs' ob0 w' := hs
        have h' := hs2.rep' h
        have hlen : βs'.length = ob0.length := hs2.len
        have hbl : βs.length ≤ L := by rw [h.obs.len]; exact c2
        have hb1 : ∀ M, M < L → bv (βs'.take L) M = bv βs' M := fun M hM => by
          unfold bv
          simp only [List.getD_eq_getElem?_getD]
          rw [List.getElem?_take_of_lt hM]
        have ho1 : ∀ M, M < L → getOb (ob0.take L) M = getOb ob0 M := fun M hM => by
          unfold getOb
          simp only [List.getD_eq_getElem?_getD]
          rw [List.getElem?_take_of_lt hM]
        have hl1 : (βs'.take L).length = L := by rw [List.length_take]; omega
        have hown : ∀ b, Own (βs'.take L) (ob0.take L) b → Own βs' ob0 b := by
          rintro b ⟨M, hM, m1, m2⟩
          rw [hl1] at hM
          rw [ho1 M hM] at m1
          rw [hb1 M hM] at m2
          exact ⟨M, by omega, m1, m2⟩
        have hF : ∀ b, Fz B βs' ob0 w' b → Fz B (βs'.take L) (ob0.take L) w' b := fun b hb => by
          rcases hb with hb | hb
          · exact .inl hb
          · exact .inr ⟨hb.1, hb.2.1, fun q => hb.2.2 (hown b q)⟩
        refine ⟨βs'.take L, ⟨hs2.os, hs2.tape, hs2.output, hs2.size, hs2.block, by rw [hl1]; exact hbl, fun M hM => (hb1 M (by omega)).trans (hs2.bext M hM), ?_, fun b hb => hs2.own b (hown b hb), fun M M' b hM hM' q1 q2 q3 q4 => ?_, fun M hM hw => (ho1 M (by omega)).trans (hs2.lock M hM hw), fun M hM => ?_⟩, ?_⟩
        · rw [hl1]
          show L = (ob0.take L).length
          rw [List.length_take]; omega
        · rw [hl1] at hM hM'
          have q1 : (getOb (ob0.take L) M).live = true := q1
          have q2 : (getOb (ob0.take L) M').live = true := q2
          rw [ho1 M hM] at q1; rw [ho1 M' hM'] at q2
          rw [hb1 M hM] at q3; rw [hb1 M' hM'] at q4
          exact hs2.inj M M' b (by omega) (by omega) q1 q2 q3 q4
        · rw [hl1] at hM
          show ObRep w' (Fz B (βs'.take L) (ob0.take L) w') (βs'.take L) (bv (βs'.take L) M) (getOb (ob0.take L) M)
          have hr := hs2.rep M (by omega)
          have hr : ObRep w' (Fz B βs' ob0 w') βs' (bv βs' M) (getOb ob0 M) := hr
          rw [ho1 M hM, hb1 M hM]
          cases hob : getOb ob0 M with
          | box cs =>
            rw [hob] at hr
            obtain ⟨b, c, t, fr, r1, r2, r3, r4, r5⟩ := hr
            refine ⟨b, c, t, fr, r1, r2, r3, r4, fun i hi => ⟨(r5 i hi).1, ?_⟩⟩
            have hbelow : rvBelow L cs[i] = true := boxesBelow_get c3 M cs (by
              show (ob0.take L)[M]? = _
              rw [List.getElem?_take_of_lt hM]
              unfold getOb at hob
              rw [List.getD_eq_getElem?_getD, List.getElem?_eq_getElem (by omega)] at hob
              rw [List.getElem?_eq_getElem (by omega)]
              exact congrArg some hob) _ (List.getElem_mem hi)
            have q := (r5 i hi).2
            generalize cs[i] = rv at q hbelow
            cases rv with
            | val k x => exact RdV.mono (fun b hb => ⟨hF b hb, rfl⟩) q
            | nilk e => exact q
            | arr N =>
              have hN : N < L := by simpa [rvBelow, Nat.blt_eq] using hbelow
              exact ⟨by rw [hl1]; exact hN, q.2.trans (hb1 N hN).symm⟩
            | map N =>
              have hN : N < L := by simpa [rvBelow, Nat.blt_eq] using hbelow
              exact ⟨by rw [hl1]; exact hN, q.2.trans (hb1 N hN).symm⟩
            | ptr N off =>
              have hN : N < L := by simpa [rvBelow, Nat.blt_eq] using hbelow
              obtain ⟨q1, b, q2, q3⟩ := q
              exact ⟨by rw [hl1]; exact hN, b, by rw [hb1 N hN]; exact q2, q3⟩
          | dead => trivial
          | arr e' l' =>
            rw [hob] at hr
            rcases hr with hr | ⟨b, off, cap, c, t, fr, r1, r2, r3, r4, r5, r6⟩
            · exact .inl hr
            · refine .inr ⟨b, off, cap, c, t, fr, r1, r2, r3, r4, r5, fun i hi => ?_⟩
              obtain ⟨cs, e1, e2, e3⟩ := r6 i hi
              exact ⟨cs, e1, e2, Rd.mono (fun b hb => ⟨hF b hb, rfl⟩) e3⟩
          | frz e' l' => rw [hob] at hr; exact RdV.mono (fun b hb => ⟨hF b hb, rfl⟩) hr
          | map kk kv m =>
            rw [hob] at hr
            obtain ⟨r, r1, r2⟩ := hr
            exact ⟨r, r1, r2.mono (fun b hb => ⟨hF b hb, rfl⟩) rfl⟩
          | fmap kk kv m => rw [hob] at hr; exact RdV.mono (fun b hb => ⟨hF b hb, rfl⟩) hr
        · obtain ⟨hL, rfl⟩ := ht
          have hr := h'.obs.rep L (by omega)
          rw [ho] at hr
          refine arr_reads hr hF (fun b hb => ?_)
          have hO : Own βs' ob0 b := ⟨L, by omega, by rw [ho]; rfl, hb⟩
          have q := h'.own b hO
          refine .inr ⟨q.1, q.2, ?_⟩
          rintro ⟨M, hM, m1, m2⟩
          rw [hl1] at hM
          have m1 : (getOb (ob0.take L) M).live = true := m1
          rw [ho1 M hM] at m1
          rw [hb1 M hM] at m2
          have := h'.inj M L b (by omega) (by omega) m1 (by rw [ho]; rfl) m2 hb
          omega
      · exact same hf
    · exact same hf
  · exact same hf

theorem evalOp_ok (hΓ : CtxOK P J Γ) (hB : B.Ok J) (h : Rep' P J B βs obs w) (hI : J.I w) {k : Nat} {o : Oper} {ρ : Operand → TV} {ρ' : Operand → Value} (hρ : ∀ x, TR P J B βs obs w (ρ x) (ρ' x)) (he : (evalOp Γ wr k o ρ obs).To (tv, obs')) :
    OpGives P J B βs obs wr w (execOp ρ' o) tv obs' := by
  unfold evalOp at he
  split at he
  · obtain ⟨p, h1, h2⟩ := Res.to_mapR he
    have hop := evalOp0_ok hΓ hB h hI hρ (show (evalOp0 Γ wr k o ρ obs).To (p.1, p.2) from h1)
    have go : ∀ {v : Value} {w' : World}, Behind P J B βs obs wr w p.1 p.2 v w' → Behind P J B βs obs wr w tv obs' v w' := by
      rintro v w' ⟨βs', hs, ht⟩
      exact forget_ok h hs ht h2
    rcases hop with ⟨v, w', hr, hb⟩ | ⟨w', hr, hb⟩ | ⟨f, args, hr, hc⟩
    · exact .inl ⟨v, w', hr, go hb⟩
    · exact .inr (.inl ⟨w', hr, go hb⟩)
    · exact .inr (.inr ⟨f, args, hr, hc.mono fun e w' ⟨v, q1, q2⟩ => ⟨v, q1, go q2⟩⟩)
  · exact evalOp0_ok hΓ hB h hI hρ he

end Go.Proofs.YtocgdpnealaoeaaDoor.Ev
