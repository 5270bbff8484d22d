/- The small evaluator is right: code (this session's own). No condition. -/
import Derived.Test.YtbliiipcjbmbiaaGreatDoorEvV
import Derived.Test.YtbliiipcjbmbiaaGreatDoorEvCh
import Derived.Test.YtbliiipcjbmbiaaGreatDoorGa
import Derived.Test.YtbliiipcjbmbiaaGreatDoorGb
namespace Go.Proofs.YtbliiipcjbmbiaaGreatDoor.Ev
open Go.RowKit
set_option linter.unusedVariables false
set_option linter.unusedSimpArgs false

variable {P : Program} {J : Inv} {Γ : Ctx} {B : Base} {C : LBase} {βs : List Value} {st : St} {a : Act} {w w' : World} {obs obs1 obs2 : List Ob}

theorem counts_spec : ∀ {l : List Nat} {cnts : List (Nat × Nat)}, counts obs l = some cnts → cnts.map (·.1) = l
  | [], cnts, h => by cases h; rfl
  | L :: r, cnts, h => by
    simp only [counts] at h
    split at h
    · split at h
      · rename_i l hl
        cases h
        simp [counts_spec hl]
      · cases h
    · cases h

theorem entry_of (hB : B.Ok J) {c : Code} {D : LB} (h : Rep P J B C βs st a w) (hd : loopBase Γ c st = some D) :
    Entry P J B (asg c) D βs st a w ∧ Again P J B (asg c) D βs st a w βs st a w := by
  unfold loopBase at hd
  split at hd
  · cases hd
  split at hd
  · cases hd
  split at hd
  · cases hd
  rename_i vary opens hlk ox labels hlab
  split at hd
  · cases hd
  rename_i hck
  simp only [Bool.and_eq_true] at hck
  split at hd
  · cases hd
  rename_i cnts hcnt
  split at hd
  · cases hd
  rename_i b hb
  split at hd
  · cases hd
  rename_i ss hss
  split at hd
  · cases hd
  rename_i ob0 hlv
  cases hd
  have hfst := counts_spec hcnt
  obtain ⟨lv1, lv2, lv3, lv4, lv5⟩ := leave_ok hlv
  obtain ⟨vs, _, _, _, hbox⟩ := srcObs_rep (h.toRep' hB) hb
  have hlabs : ∀ L ∈ labels, L < βs.length ∧ st.wr L = true := fun L hL => by
    refine ⟨?_, allWr_all hck.1 L hL⟩
    rw [← hfst] at hL
    obtain ⟨p, hp, rfl⟩ := List.mem_map.1 hL
    obtain ⟨cs, hcs⟩ := hbox p hp
    rw [h.len]
    exact getOb_lt hcs rfl
  have hLab : (LB.mk vary cnts ss st.n (killAll (asg c ++ vary) st.tmps) ob0).labels = labels := hfst
  refine ⟨⟨⟨C, h⟩, rfl, lv1.1.trans h.len.symm, rfl, lv1.2, by rw [hLab]; exact nodupB_nodup hck.2, by rw [hLab]; exact hlabs, fun L hL => ?_⟩,
    ⟨C, h⟩, h.size, fun _ _ => rfl, fun b hb => ⟨hb, rfl⟩, Nat.le_refl _, Nat.le_refl _, fun _ _ => rfl, fun L _ _ => ?_, rfl, fun src o hs ho L hL _ _ => ?_⟩
  · refine lv4 L fun hm => ?_
    have := (lv3 L hm).1
    rw [hL] at this; cases this
  · exact (lv1.2 L).imp id id
  · have hs : (match srcObs cnts st.obs with
      | some b => some (vary.map (fun s => st.get s) ++ b)
      | none => none) = some src := hs
    rw [hb] at hs
    cases hs
    exact (lv3 L hL).2.2.2

theorem joinEntry_of (hB : B.Ok J) {c y : Code} {D D2 : LB} (h : Rep P J B C βs st a w) (hd : joinBase Γ c y st = some (D, D2)) :
    Entry P J B (asg c) D βs st a w ∧ Again P J B (asg c) D βs st a w βs st a w ∧ Entry P J B (asg c) D2 βs st a w ∧ D2.obs = D.obs ∧ D2.cnts = D.cnts := by
  unfold joinBase at hd
  split at hd
  · cases hd
  split at hd
  · cases hd
  rename_i vin vout sout opens hlk
  split at hd
  · cases hd
  rename_i labels hlab
  split at hd
  · cases hd
  rename_i hck
  simp only [Bool.and_eq_true] at hck
  split at hd
  · cases hd
  rename_i cnts hcnt
  split at hd
  · cases hd
  rename_i b hb
  split at hd
  · cases hd
  rename_i ss hss
  split at hd
  · cases hd
  rename_i sb hsb
  split at hd
  · cases hd
  rename_i ob0 hlv
  cases hd
  have hfst := counts_spec hcnt
  obtain ⟨lv1, lv2, lv3, lv4, lv5⟩ := leave_ok hlv
  obtain ⟨vs, _, _, _, hbox⟩ := srcObs_rep (h.toRep' hB) hb
  have hlabs : ∀ L ∈ labels, L < βs.length ∧ st.wr L = true := fun L hL => by
    refine ⟨?_, allWr_all hck.1 L hL⟩
    rw [← hfst] at hL
    obtain ⟨p, hp, rfl⟩ := List.mem_map.1 hL
    obtain ⟨cs, hcs⟩ := hbox p hp
    rw [h.len]
    exact getOb_lt hcs rfl
  have hwrd : ∀ L, st.wr L = false → getOb ob0 L = getOb st.obs L := fun L hL => by
    refine lv4 L fun hm => ?_
    have := (lv3 L hm).1
    rw [hL] at this; cases this
  refine ⟨⟨⟨C, h⟩, rfl, lv1.1.trans h.len.symm, rfl, lv1.2, ?_, ?_, hwrd⟩,
    ⟨⟨C, h⟩, h.size, fun _ _ => rfl, fun b hb => ⟨hb, rfl⟩, Nat.le_refl _, Nat.le_refl _, fun _ _ => rfl, fun L _ _ => ?_, rfl, fun src o hs ho L hL _ _ => ?_⟩,
    ⟨⟨C, h⟩, rfl, lv1.1.trans h.len.symm, rfl, lv1.2, ?_, ?_, hwrd⟩, rfl, rfl⟩
  · show (cnts.map (·.1)).Nodup
    rw [hfst]; exact nodupB_nodup hck.2
  · show ∀ L ∈ cnts.map (·.1), _
    rw [hfst]; exact hlabs
  · exact (lv1.2 L).imp id id
  · have hs : (match srcObs cnts st.obs with
      | some b => some (vin.map (fun s => st.get s) ++ b)
      | none => none) = some src := hs
    rw [hb] at hs
    cases hs
    exact (lv3 L hL).2.2.2
  · show (cnts.map (·.1)).Nodup
    rw [hfst]; exact nodupB_nodup hck.2
  · show ∀ L ∈ cnts.map (·.1), _
    rw [hfst]; exact hlabs

/-- a round's end is a round's beginning -/
theorem again_of {A : List Nat} {D : LB} {βe : List Value} {ste : St} {ae : Act} {we : World} (hE : Entry P J B A D βe ste ae we) (h : Rep P J B (loopAt B A D βe ste ae we) βs st a w)
    (hlk : st.lk = D.obs.length) (hop : st.op = D.labels) (hn : st.n = D.n) : Again P J B A D βe ste ae we βs st a w := by
  have hwr : ∀ L, L < βe.length → L ∉ D.labels → st.wr L = false := fun L hL hlab => by
    unfold St.wr Ev.wr
    rw [hlk, hop, Bool.or_eq_false_iff]
    constructor
    · have : ¬ D.obs.length ≤ L := by have := hE.len; omega
      cases hb : Nat.ble D.obs.length L
      · rfl
      · exact absurd (Nat.le_of_ble_eq_true hb) this
    · cases hb : D.labels.any (Nat.beq L)
      · rfl
      · obtain ⟨x, hx, hb⟩ := List.any_eq_true.1 hb
        rw [Nat.eq_of_beq_eq_true hb] at hlab
        exact absurd hx hlab
  refine ⟨⟨_, h⟩, h.size.trans hn, h.keep, h.mono, h.msize, h.blen, h.bext, fun L hL hlab => .inl (h.lock L hL (hwr L hL hlab)).symm, h.defers, fun src o hs ho L hL hLe hlab => ?_⟩
  have := ((leave_ok ho).2.2.1 L hL).1
  rw [hwr L hLe hlab] at this; cases this

/-- behind a loop -/
theorem Rep.outOf {A : List Nat} {D : LB} {βe : List Value} {ste : St} {ae : Act} {we : World} (h0 : Rep P J B C βe ste ae we) (hk : ∀ d ∈ A, ¬ C.kept d) (hE : Entry P J B A D βe ste ae we) (h : Rep P J B (loopAt B A D βe ste ae we) βs st a w)
    (hlk : st.lk = D.obs.length) (hop : st.op = D.labels) (hn : st.n = D.n) : Rep P J B C βs (st.locks ste.lk ste.op) a w := by
  have hA := again_of hE h hlk hop hn
  refine ⟨h.ext, h.own, h.inj, h.len, h.obs, h.tmps, h.size, h.defers.trans h0.defers, fun s hs => ?_, fun b hb => ?_, Nat.le_trans h0.msize h.msize, Nat.le_trans h0.blen h.blen, fun L hL => ?_, fun L hL hw => ?_⟩
  · rw [← h0.keep s hs]
    exact h.keep s fun q => hk s q hs
  · have h1 := h0.mono b hb
    have h2 := h.mono b h1.1
    exact ⟨h2.1, h2.2.trans h1.2⟩
  · rw [← h0.bext L hL]
    exact h.bext L (Nat.lt_of_lt_of_le hL h0.blen)
  · have hw : ste.wr L = false := hw
    have hLe : L < βe.length := Nat.lt_of_lt_of_le hL h0.blen
    have hlab : L ∉ D.labels := fun q => by
      have := (hE.lab L q).2
      rw [hw] at this; cases this
    rw [← h0.lock L hL hw, ← hE.wrd L hw]
    rcases hA.lock L hLe hlab with q | q
    · exact q.symm
    · have hwr : st.wr L = false := by
        unfold St.wr Ev.wr
        rw [hlk, hop, Bool.or_eq_false_iff]
        constructor
        · have : ¬ D.obs.length ≤ L := by have := hE.len; omega
          cases hb : Nat.ble D.obs.length L
          · rfl
          · exact absurd (Nat.le_of_ble_eq_true hb) this
        · cases hb : D.labels.any (Nat.beq L)
          · rfl
          · obtain ⟨x, hx, hb⟩ := List.any_eq_true.1 hb
            rw [Nat.eq_of_beq_eq_true hb] at hlab
            exact absurd hx hlab
      exact h.lock L hLe hwr

theorem SameLocks.trans {st0 st1 st2 : St} (h : SameLocks st0 st1) (h' : SameLocks st1 st2) : SameLocks st0 st2 := ⟨h'.1.trans h.1, h'.2.1.trans h.2.1, h'.2.2.trans h.2.2⟩

theorem freezeFor_ok (hB : B.Ok J) {c : Code} {st0 st1 : St} (h : Rep P J B C βs st a w) (hl : SameLocks st0 st) (hf : freezeFor Γ c st = some st1) : Rep P J B C βs st1 a w ∧ SameLocks st0 st1 := by
  unfold freezeFor at hf
  split at hf
  · cases hf
  split at hf
  · cases hf; exact ⟨h, hl⟩
  split at hf
  · cases hf
  rename_i obs hfz
  cases hf
  exact ⟨h.step hB (frzAll_step (h.toRep' hB) hfz), hl.with_⟩

theorem freezeReg_ok (hB : B.Ok J) {id : Nat} {st0 st1 : St} (h : Rep P J B C βs st a w) (hl : SameLocks st0 st) (hf : freezeReg Γ id st = some st1) : Rep P J B C βs st1 a w ∧ SameLocks st0 st1 := by
  unfold freezeReg at hf
  split at hf
  · cases hf; exact ⟨h, hl⟩
  split at hf
  · cases hf
  rename_i obs hfz
  cases hf
  exact ⟨h.step hB (frzAll_step (h.toRep' hB) hfz), hl.with_⟩

variable {R : Type}
/-- ████ the evaluator's code is the program's ████ -/
theorem frcRound_or {R : Type} (b : Bool) (c : Code) (st : St) (K : St → Option R) : frcRound b c st K = K (st.lose (temps c)) ∨ frcRound b c st K = K st := by
  cases b
  · exact .inr rfl
  · left
    unfold frcRound
    exact St.ff_eq _ _
theorem exec_ok (hΓ : CtxOK P J Γ) (hB : B.Ok J) {k : Nat} {r : R} : ∀ (c : Code) {C : LBase} {E : Ex R} {K : St → Option R} {Q : Exit → Act → World → Prop} {st0 : St},
    (∀ d ∈ asg c, ¬ C.kept d) →
    (∀ βs st a w, Rep P J B C βs st a w → SameLocks st0 st → K st = some r → Q .normal a w) →
    (∀ id βs st a w, Rep P J B C βs st a w → SameLocks st0 st → E.ex id st = some r → Q (.exit id) a w) →
    (∀ βs st a w, Rep P J B C βs st a w → SameLocks st0 st → E.ret st = some r → Q .ret a w) →
    ∀ {βs : List Value} {st : St} {a : Act} {w : World}, Rep P J B C βs st a w → SameLocks st0 st → exec Γ k c E K st = some r → c.wp P Q a w := by
  intro c
  induction c with
  | skip => intro C E K Q st0 hd hK hE hR βs st a w h hl he; exact wp_skip (hK _ _ _ _ h hl he)
  | region id ops draw =>
    intro C E K Q st0 hd hK hE hR βs st a w h hl he
    cases draw with
    | false =>
      rw [exec] at he
      split at he
      · refine wp_region_list (execOps_ok hΓ hB (k := k) (K := K) (r := r) (st0 := st0) (fun βs st' a' w' h1 h2 h3 => hK βs st' a' w' h1 h2 h3) ops.toList βs st a w (fun o ho d hdst => hd d ?_) h hl he)
        simp only [asg, List.mem_filterMap]
        exact ⟨o, ho, hdst⟩
      · rename_i n hn
        obtain ⟨hops, hop, hgd⟩ := nextHead_ok hn
        split at he
        · cases he
        rename_i outs hout
        have hI := h.inv hB
        obtain ⟨p, hp, v', w', hrun, hbe⟩ := nextAt_ok (h.toRep' hB) (h.ev n.2.1) hout n.1.type
        have hp := allSame_ok E.eq.ok he _ (List.mem_map.2 ⟨p, hp, rfl⟩)
        rw [TV.fc_eq, obF_eq] at hp
        have hdst : ∀ o ∈ ops.toList, ∀ d, o.dst = some d → ¬ C.kept d := fun o ho d hdst => hd d (by
          simp only [asg, List.mem_filterMap]
          exact ⟨o, ho, hdst⟩)
        refine wp_region_list ?_
        rw [hops] at hdst ⊢
        unfold wpList
        rw [if_pos (by simp [Region.wanted, hgd])]
        left
        unfold Oper.wp
        have hex : (execOp a.eval n.1).run P w = .ok (.value v') w' := by
          unfold execOp
          rw [hop]
          simp [hrun]
        rw [hex]
        obtain ⟨βs', hs, ht⟩ := hbe
        exact execOps_ok hΓ hB (k := k) (K := K) (r := r) (st0 := st0) (fun βs st' a' w' h1 h2 h3 => hK βs st' a' w' h1 h2 h3) n.2.2 βs' _ _ w' (fun o ho => hdst o (List.mem_cons_of_mem _ ho)) ((h.step hB hs).put (hdst n.1 (List.mem_cons_self ..)) ht) hl.with_.put hp
    | true =>
      rw [exec] at he
      split at he
      · split at he
        · rename_i hns
          exact execGenR_ok hΓ hB (K := K) (r := r) (st0 := st0) E.eq hns (fun o ho d hdst => hd d (by
            simp only [asg, List.mem_filterMap]
            exact ⟨o, ho, hdst⟩)) (fun βs st' a' w' h1 h2 h3 => hK βs st' a' w' h1 h2 h3) h hl he
        · cases he
      split at he
      · cases he
      rename_i st1 hfz
      obtain ⟨h, hl⟩ := freezeReg_ok hB h hl hfz
      split at he
      · rename_i bB m hm
        split at he
        · rename_i hc
          simp only [Bool.and_eq_true] at hc
          exact execDrawC_ok hΓ hB (K := K) (r := r) (st0 := st0) (m := m) (fun βs st' a' w' h1 h2 h3 => hK βs st' a' w' h1 h2 h3) (fun o ho d hdst => hd d (by
            simp only [asg, List.mem_filterMap]
            exact ⟨o, ho, hdst⟩)) h hl hc.1.1.1 hc.1.1.2 (Nat.le_of_ble_eq_true hc.1.2) (chainObs_ge bB _ _) (fun L hL hw => chainWr_facts hL hw) (fun hb => by rw [hb] at hc; simpa using hc.2) he
        · cases he
      · split at he
        · rename_i hok
          split at he
          · exact execDraw_ok hΓ hB (K := K) (r := r) (st0 := st0) (m := frontOf Γ id ops) (fun βs st' a' w' h1 h2 h3 => hK βs st' a' w' h1 h2 h3) (fun o ho d hdst => hd d (by
              simp only [asg, List.mem_filterMap]
              exact ⟨o, ho, hdst⟩)) h hl hok he
          · exact execDrawA_ok hΓ hB (K := K) (r := r) (st0 := st0) (m := frontOf Γ id ops) (fun βs st' a' w' h1 h2 h3 => hK βs st' a' w' h1 h2 h3) (fun o ho d hdst => hd d (by
              simp only [asg, List.mem_filterMap]
              exact ⟨o, ho, hdst⟩)) h hl hok he
        · cases he
  | seq x y ihx ihy =>
    intro C E K Q st0 hd hK hE hR βs st a w h hl he
    have hdx : ∀ d ∈ asg x, ¬ C.kept d := fun d hm => hd d (by simp [asg, hm])
    have hdy : ∀ d ∈ asg y, ¬ C.kept d := fun d hm => hd d (by simp [asg, hm])
    rw [exec] at he
    split at he
    · refine wp_seq (ihx (Q := Exit.then (y.wp P Q) Q) (E := E) (K := fun st1 => exec Γ k y E K st1) hdx (fun βs st1 a w h1 hl1 he1 => ?_) (fun id βs st1 a w h1 hl1 he1 => hE id βs st1 a w h1 hl1 he1) (fun βs st1 a w h1 hl1 he1 => hR βs st1 a w h1 hl1 he1) h hl he)
      exact ihy hdy hK hE hR h1 hl1 he1
    · split at he
      · cases he
      rename_i D D2 hD
      split at he
      · cases he
      rename_i x0 hx0
      obtain ⟨hEn, hAg, hEn2, ho2, hc2⟩ := joinEntry_of hB h hD
      have hat : loopAt B (asg x) D2 βs st a w = loopAt B (asg x) D βs st a w := by unfold loopAt; rw [ho2]
      have hlab2 : D2.labels = D.labels := by unfold LB.labels; rw [hc2]
      have hnDn : D.n = st.n := hEn.n
      have hnDn2 : D2.n = st.n := hEn2.n
      have back : ∀ {βs2 : List Value} {st2 : St} {a2 : Act} {w2 : World}, Rep P J B (loopAt B (asg x) D βs st a w) βs2 st2 a2 w2 → SameLocks (D.head x0) st2 → Rep P J B C βs2 (st2.locks st.lk st.op) a2 w2 ∧ SameLocks st0 (st2.locks st.lk st.op) := fun {βs2 st2 a2 w2} h2 hl2 => by
        refine ⟨h.outOf hdx hEn h2 hl2.1 hl2.2.1 hl2.2.2, hl.1, hl.2.1, ?_⟩
        show st2.n = st0.n
        rw [hl2.2.2, ← hl.2.2, ← hnDn]; rfl
      obtain ⟨βs1, h1⟩ := head_ok hB hEn hAg hx0
      refine wp_seq (ihx (C := loopAt B (asg x) D βs st a w) (Q := Exit.then (y.wp P Q) Q) (E := E.locks st.lk st.op) (st0 := D.head x0)
        (K := fun st1 => match D2.pack st1 with
          | some x1 => exec Γ k y E K ((D2.head x1).locks st.lk st.op)
          | none => none) (fun d hm hk => hk hm) (fun βs2 st2 a2 w2 h2 hl2 he2 => ?_) (fun id βs2 st2 a2 w2 h2 hl2 he2 => ?_) (fun βs2 st2 a2 w2 h2 hl2 he2 => ?_) h1 ⟨rfl, rfl, rfl⟩ he)
      · show y.wp P Q a2 w2
        split at he2
        · rename_i x1 hx1
          have h2' := h2
          rw [← hat] at h2'
          have e1 : st2.lk = D2.obs.length := by rw [ho2]; exact hl2.1
          have e2 : st2.op = D2.labels := by rw [hlab2]; exact hl2.2.1
          have e3 : st2.n = D2.n := by rw [hnDn2, ← hnDn]; exact hl2.2.2
          obtain ⟨βs3, h3⟩ := head_ok hB hEn2 (again_of hEn2 h2' e1 e2 e3) hx1
          refine ihy hdy hK hE hR (h.outOf hdx hEn2 h3 rfl rfl rfl) ⟨hl.1, hl.2.1, ?_⟩ he2
          show D2.n = st0.n
          rw [hnDn2, hl.2.2]
        · cases he2
      · obtain ⟨b1, b2⟩ := back h2 hl2
        exact hE id _ _ _ _ b1 b2 he2
      · obtain ⟨b1, b2⟩ := back h2 hl2
        exact hR _ _ _ _ b1 b2 he2
  | cond c x y ihx ihy =>
    intro C E K Q st0 hd hK hE hR βs st a w h hl he
    have hdx : ∀ d ∈ asg x, ¬ C.kept d := fun d hm => hd d (by simp [asg, hm])
    have hdy : ∀ d ∈ asg y, ¬ C.kept d := fun d hm => hd d (by simp [asg, hm])
    rw [exec] at he
    split at he
    · rename_i t ht
      have hv := h.ev c
      rw [ht] at hv
      refine wp_cond (rdv_bool hv) ?_
      cases t with
      | true => exact ihx hdx hK hE hR h hl he
      | false => exact ihy hdy hK hE hR h hl he
    · cases he
  | block id c ih =>
    intro C E K Q st0 hd hK hE hR βs st a w h hl he
    refine wp_block (ih (Q := Exit.inBlock id Q) (E := E.add id K) (K := K) hd hK (fun j βs st1 a w h1 hl1 he1 => ?_) hR h hl he)
    have he1 : (bif Nat.beq j id then K st1 else E.ex j st1) = some r := he1
    by_cases e : j = id
    · subst e
      have : Nat.beq j j = true := by simp
      rw [this] at he1
      show (if j = j then Q .normal a w else Q (.exit j) a w)
      rw [if_pos rfl]
      exact hK _ _ _ _ h1 hl1 he1
    · have : Nat.beq j id = false := by
        cases hb : Nat.beq j id
        · rfl
        · exact absurd (Nat.eq_of_beq_eq_true hb) e
      rw [this] at he1
      show (if j = id then Q .normal a w else Q (.exit j) a w)
      rw [if_neg e]
      exact hE _ _ _ _ _ h1 hl1 he1
  | exit id => intro C E K Q st0 hd hK hE hR βs st a w h hl he; exact wp_exit (hE _ _ _ _ _ h hl he)
  | ret => intro C E K Q st0 hd hK hE hR βs st a w h hl he; exact wp_ret (hR _ _ _ _ h hl he)
  | loop c ih =>
    intro C E K Q st0 hd hK hE hR βs stb a w hb hlb he
    rw [exec] at he
    split at he
    · -- round by round
      have lose : ∀ (βs1 : List Value) (st1 : St) (a1 : Act) (w1 : World) (ds : List Nat), Rep P J B C βs1 st1 a1 w1 → Rep P J B C βs1 (st1.lose ds) a1 w1 := fun βs1 st1 a1 w1 ds h1 =>
        ⟨h1.ext, h1.own, h1.inj, h1.len, h1.obs, fun s => by
          show TVRep P J w1 _ B.S βs1 (tget (killAll ds st1.tmps) s) _
          rw [tget_kill]
          split
          · trivial
          · exact h1.tmps s, h1.size, h1.defers, h1.keep, h1.mono, h1.msize, h1.blen, h1.bext, h1.lock⟩
      have rounds : ∀ (n : Nat) (βs1 : List Value) (st1 : St) (a1 : Act) (w1 : World), Rep P J B C βs1 st1 a1 w1 → SameLocks st0 st1 → unrollN (fun next st => frcRound E.eq.frc c st fun st => exec Γ k c E next st) n st1 = some r → Code.rounds P c Q n a1 w1 := by
        intro n
        induction n with
        | zero => intro βs1 st1 a1 w1 h1 hl1 he1; cases he1
        | succ n ihn =>
          intro βs1 st1 a1 w1 h1 hl1 he1
          rw [rounds_succ]
          have go : ∀ st3 : St, Rep P J B C βs1 st3 a1 w1 → SameLocks st0 st3 → exec Γ k c E (fun st2 => unrollN (fun next st => frcRound E.eq.frc c st fun st => exec Γ k c E next st) n st2) st3 = some r → c.wp P (Exit.then (Code.rounds P c Q n) Q) a1 w1 := fun st3 h3 hl3 he3 => by
            refine ih (C := C) (E := E) (st0 := st0) hd (fun βs2 st2 a2 w2 h2 hl2 he2 => ?_) (fun id βs2 st2 a2 w2 h2 hl2 he2 => ?_) (fun βs2 st2 a2 w2 h2 hl2 he2 => ?_) h3 hl3 he3
            · show Code.rounds P c Q n a2 w2
              exact ihn βs2 st2 a2 w2 h2 hl2 he2
            · exact hE id _ _ _ _ h2 hl2 he2
            · exact hR _ _ _ _ h2 hl2 he2
          rw [unrollN] at he1
          rcases frcRound_or E.eq.frc c st1 (fun st => exec Γ k c E (fun st1 => unrollN (fun next st => frcRound E.eq.frc c st fun st => exec Γ k c E next st) n st1) st) with q | q
          · rw [q] at he1
            exact go _ (lose _ _ _ _ _ h1) hl1 he1
          · rw [q] at he1
            exact go _ h1 hl1 he1
      exact wp_loop_rounds k (rounds k βs stb a w hb hlb he)
    split at he
    · cases he
    rename_i st hfz
    obtain ⟨h, hl⟩ := freezeFor_ok hB hb hlb hfz
    split at he
    · cases he
    rename_i D hD
    split at he
    · cases he
    rename_i x0 hx0
    obtain ⟨hEn, hAg⟩ := entry_of hB h hD
    have hd' : ∀ d ∈ asg c, ¬ C.kept d := hd
    have hnDn : D.n = st.n := hEn.n
    -- the rounds
    have rounds : ∀ (n : Nat) (x : XT D.ss) (βs1 : List Value) (a1 : Act) (w1 : World), Rep P J B (loopAt B (asg c) D βs st a w) βs1 (D.head x) a1 w1 →
        loopN n (fun next x => exec Γ k c (E.locks st.lk st.op) (fun st1 => match D.pack st1 with
          | some x1 => next x1
          | none => none) (D.head x)) x = some r → Code.rounds P c Q n a1 w1 := by
      intro n
      induction n with
      | zero => intro x βs1 a1 w1 h1 he1; cases he1
      | succ n ihn =>
        intro x βs1 a1 w1 h1 he1
        rw [rounds_succ]
        have back : ∀ {βs2 : List Value} {st2 : St} {a2 : Act} {w2 : World}, Rep P J B (loopAt B (asg c) D βs st a w) βs2 st2 a2 w2 → SameLocks (D.head x) st2 → Rep P J B C βs2 (st2.locks st.lk st.op) a2 w2 ∧ SameLocks st0 (st2.locks st.lk st.op) := fun {βs2 st2 a2 w2} h2 hl2 => by
          refine ⟨h.outOf hd' hEn h2 hl2.1 hl2.2.1 hl2.2.2, hl.1, hl.2.1, ?_⟩
          show st2.n = st0.n
          rw [hl2.2.2, ← hl.2.2, ← hnDn]; rfl
        refine ih (C := loopAt B (asg c) D βs st a w) (E := E.locks st.lk st.op) (st0 := D.head x) (fun d hm hk => hk hm) (fun βs2 st2 a2 w2 h2 hl2 he2 => ?_) (fun id βs2 st2 a2 w2 h2 hl2 he2 => ?_) (fun βs2 st2 a2 w2 h2 hl2 he2 => ?_) h1 ⟨rfl, rfl, rfl⟩ he1
        · show Code.rounds P c Q n a2 w2
          split at he2
          · rename_i x1 hx1
            obtain ⟨βs3, h3⟩ := head_ok hB hEn (again_of hEn h2 hl2.1 hl2.2.1 hl2.2.2) hx1
            exact ihn x1 βs3 a2 w2 h3 he2
          · cases he2
        · obtain ⟨b1, b2⟩ := back h2 hl2
          exact hE id _ _ _ _ b1 b2 he2
        · obtain ⟨b1, b2⟩ := back h2 hl2
          exact hR _ _ _ _ b1 b2 he2
    obtain ⟨βs1, h1⟩ := head_ok hB hEn hAg hx0
    exact wp_loop_rounds k (rounds k x0 βs1 a w h1 he)
  | _ => intro C E K Q st0 hd hK hE hR βs st a w h hl he; simp [exec] at he

end Go.Proofs.YtbliiipcjbmbiaaGreatDoor.Ev
