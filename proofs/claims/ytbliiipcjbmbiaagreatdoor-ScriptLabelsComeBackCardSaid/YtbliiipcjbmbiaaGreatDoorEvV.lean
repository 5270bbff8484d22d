/- The small evaluator is right: a loop is entered (this session's own). No condition. -/
import Derived.Test.YtbliiipcjbmbiaaGreatDoorGb
namespace Go.Proofs.YtbliiipcjbmbiaaGreatDoor.Ev
open Go.RowKit
set_option linter.unusedVariables false
set_option linter.unusedSimpArgs false

variable {P : Program} {J : Inv} {Γ : Ctx} {B : Base} {C : LBase} {βs : List Value} {st : St} {a : Act} {w w' : World} {obs obs1 obs2 : List Ob}

/-- where a loop was entered -/
structure Entry (P : Program) (J : Inv) (B : Base) (A : List Nat) (D : LB) (βe : List Value) (ste : St) (ae : Act) (we : World) : Prop where
  rep : ∃ C, Rep P J B C βe ste ae we
  n : D.n = ste.n
  len : D.obs.length = βe.length
  tmps : D.tmps = killAll (A ++ D.vary) ste.tmps
  drops : ∀ L, getOb D.obs L = getOb ste.obs L ∨ getOb D.obs L = .dead
  nodup : D.labels.Nodup
  lab : ∀ L ∈ D.labels, L < βe.length ∧ ste.wr L = true
  wrd : ∀ L, ste.wr L = false → getOb D.obs L = getOb ste.obs L
def loopAt (B : Base) (A : List Nat) (D : LB) (βe : List Value) (ste : St) (ae : Act) (we : World) : LBase :=
  { kept := fun s => s ∉ A, V := fun s => ae.tmps.getD s undef, Fb := Fz B βe ste.obs we, wb := we, βb := βe, ob := D.obs, ds := ae.defers }
/-- where its next round begins -/
structure Again (P : Program) (J : Inv) (B : Base) (A : List Nat) (D : LB) (βe : List Value) (ste : St) (ae : Act) (we : World) (βs : List Value) (st : St) (a : Act) (w : World) : Prop where
  rep : ∃ C, Rep P J B C βs st a w
  size : a.tmps.size = D.n
  keep : ∀ s, s ∉ A → a.tmps.getD s undef = ae.tmps.getD s undef
  mono : ∀ b, Fz B βe ste.obs we b → Fz B βs st.obs w b ∧ w.heap[b]? = we.heap[b]?
  msize : we.heap.size ≤ w.heap.size
  blen : βe.length ≤ βs.length
  bext : ∀ L, L < βe.length → bv βs L = bv βe L
  lock : ∀ L, L < βe.length → L ∉ D.labels → getOb D.obs L = getOb st.obs L ∨ getOb D.obs L = .dead
  ds : a.defers = ae.defers
  src : ∀ src o, D.srcs st = some src → leave st.wr src st.obs = some o → ∀ L ∈ srcLabels src, L < βe.length → L ∉ D.labels → getOb D.obs L = .dead

/-- what an object is, told with the labels of where the loop was entered -/
theorem ObRep.cut {we : World} {F F' Fe : Nat → Prop} {βe βs' : List Value} {v ve : Value} {o : Ob} (hF : ∀ b, F b → F' b) (hl : βe.length ≤ βs'.length) (hb : ∀ L, L < βe.length → bv βs' L = bv βs L)
    (he : ObRep we Fe βe ve o) (h : ObRep w F βs v o) : ObRep w F' βs' v o := by
  cases o with
  | box cs =>
    obtain ⟨b, c, t, fr, h1, h2, h3, h4, h5⟩ := h
    obtain ⟨_, _, _, _, _, _, _, _, g5⟩ := he
    refine ⟨b, c, t, fr, h1, h2, h3, h4, fun i hi => ⟨(h5 i hi).1, ?_⟩⟩
    have q1 := (h5 i hi).2
    have q2 := (g5 i hi).2
    generalize cs[i] = r at q1 q2
    cases r with
    | val k x => exact RdV.mono (fun b hb => ⟨hF b hb, rfl⟩) q1
    | nilk e => exact q1
    | arr L => exact ⟨Nat.lt_of_lt_of_le q2.1 hl, q1.2.trans (hb L q2.1).symm⟩
    | map L => exact ⟨Nat.lt_of_lt_of_le q2.1 hl, q1.2.trans (hb L q2.1).symm⟩
    | ptr L off =>
      obtain ⟨_, b, z1, z2⟩ := q1
      exact ⟨Nat.lt_of_lt_of_le q2.1 hl, b, by rw [hb L q2.1]; exact z1, z2⟩
    | fn g caps =>
      refine ⟨fun L hL => ?_, ?_⟩
      · obtain ⟨_, b, z⟩ := q1.1 L hL
        exact ⟨Nat.lt_of_lt_of_le (q2.1 L hL).1 hl, b, by rw [hb L (q2.1 L hL).1]; exact z⟩
      · rw [q1.2, List.map_congr_left fun L hL => (hb L (q2.1 L hL).1).symm]
  | dead => trivial
  | arr e l =>
    rcases h with h | ⟨b, off, cap, c, t, fr, h1, h2, h3, h4, h5, h6⟩
    · exact .inl h
    · refine .inr ⟨b, off, cap, c, t, fr, h1, h2, h3, h4, h5, fun i hi => ?_⟩
      obtain ⟨cs, e1, e2, e3⟩ := h6 i hi
      exact ⟨cs, e1, e2, Rd.mono (fun b hb => ⟨hF b hb, rfl⟩) e3⟩
  | frz e l => exact RdV.mono (fun b hb => ⟨hF b hb, rfl⟩) h
  | map kk kv m =>
    obtain ⟨r, h1, h2⟩ := h
    exact ⟨r, h1, h2.mono (fun b hb => ⟨hF b hb, rfl⟩) rfl⟩
  | fmap kk kv m => exact RdV.mono (fun b hb => ⟨hF b hb, rfl⟩) h
  | iter kk kv m left cur =>
    obtain ⟨b, h1, h2⟩ := h
    exact ⟨b, h1, h2.mono (fun b hb => ⟨hF b hb, rfl⟩) rfl⟩

theorem tget_kill : ∀ {l : List (Nat × TV)} {ds : List Nat} {s : Nat}, tget (killAll ds l) s = if s ∈ ds then .dead else tget l s
  | [], ds, s => by simp [killAll, tget]
  | (t, tv) :: l, ds, s => by
    have ih := tget_kill (l := l) (ds := ds) (s := s)
    simp only [killAll]
    by_cases ht : ds.any (Nat.beq t) = true
    · rw [ht]
      simp only [cond]
      rw [ih, tget_cons]
      by_cases e : t = s
      · subst e
        have : t ∈ ds := by
          obtain ⟨x, hx, hb⟩ := List.any_eq_true.1 ht
          rw [Nat.eq_of_beq_eq_true hb]; exact hx
        rw [if_pos this, if_pos this]
      · rw [if_neg e]
    · rw [Bool.not_eq_true] at ht
      rw [ht]
      simp only [cond]
      rw [tget_cons, tget_cons, ih]
      by_cases e : t = s
      · subst e
        have : t ∉ ds := fun hm => by
          have := (List.any_eq_true (p := Nat.beq t)).2 ⟨t, hm, by simp⟩
          rw [ht] at this; cases this
        rw [if_pos rfl, if_pos rfl, if_neg this]
      · rw [if_neg e, if_neg e]
theorem tget_setAll {Q : TV → Prop} {s : Nat} : ∀ {vary : List Nat} {rvs : List RV} {tmps : List (Nat × TV)}, vary.length ≤ rvs.length → (∀ (i : Nat) (h1 : i < vary.length) (h2 : i < rvs.length), vary[i] = s → Q rvs[i].tv) → (s ∉ vary → Q (tget tmps s)) → Q (tget (setAll vary rvs tmps) s)
  | [], _, _, _, _, h => h (by simp)
  | t :: r, [], _, hl, _, _ => by simp at hl
  | t :: r, v :: vs, tmps, hl, h1, h2 => by
    simp only [setAll]
    rw [tget_cons]
    by_cases e : t = s
    · rw [if_pos e]; exact h1 0 (by simp) (by simp) e
    · rw [if_neg e]
      refine tget_setAll (by simpa using hl) (fun i q1 q2 q3 => h1 (i + 1) (by simpa using q1) (by simpa using q2) q3) fun hs => h2 fun hm => ?_
      rcases List.mem_cons.1 hm with rfl | hm
      · exact e rfl
      · exact hs hm

theorem TVs.of_slots (h : Rep P J B C βs st a w) : ∀ (l : List Nat), TVs P J B βs st.obs w (l.map fun s => st.get s) (l.map fun s => a.tmps.getD s undef)
  | [] => rfl
  | s :: l => ⟨_, _, rfl, h.tmps s, TVs.of_slots h l⟩

theorem bv_take {n L : Nat} {vs : List Value} (hn : n ≤ βs.length) (hL : L < n) : bv (βs.take n ++ vs) L = bv βs L := by
  unfold bv
  simp only [List.getD_eq_getElem?_getD]
  rw [List.getElem?_append_left (by simp; omega), List.getElem?_take_of_lt hL]
theorem bv_new {n i : Nat} {vs : List Value} (hn : n ≤ βs.length) : bv (βs.take n ++ vs) (n + i) = vs.getD i undef := by
  unfold bv
  simp only [List.getD_eq_getElem?_getD]
  rw [List.getElem?_append_right (by simp; omega)]
  simp [Nat.min_eq_left hn]

theorem head_ok (hB : B.Ok J) {A : List Nat} {D : LB} {βe : List Value} {ste : St} {ae : Act} {we : World} (hE : Entry P J B A D βe ste ae we) (hA : Again P J B A D βe ste ae we βs st a w) {x : XT D.ss} (hx : D.pack st = some x) :
    ∃ βs', Rep P J B (loopAt B A D βe ste ae we) βs' (D.head x) a w := by
  obtain ⟨C1, h1⟩ := hA.rep
  obtain ⟨C0, h0⟩ := hE.rep
  have h1' := h1.toRep' hB
  simp only [LB.pack] at hx
  split at hx
  case h_2 => cases hx
  rename_i src hsrc
  split at hx
  case h_2 => cases hx
  rename_i o hlv
  have hsd := hA.src src o hsrc hlv
  simp only [LB.srcs] at hsrc
  split at hsrc
  case h_2 => cases hsrc
  rename_i bx hbx
  cases hsrc
  obtain ⟨vb, tb, bb, lb, cb⟩ := srcObs_rep h1' hbx
  have tv := TVs.of_slots h1 D.vary
  have ht := TVs.append tv tb
  obtain ⟨vs, hvs⟩ : ∃ vs, vs = (D.vary.map fun s => a.tmps.getD s undef) ++ vb := ⟨_, rfl⟩
  rw [← hvs] at ht
  have hp := pack_rep h1' ht hx
  obtain ⟨lv1, lv2, lv3, lv4, lv5⟩ := leave_ok hlv
  have hnl := newVals_own ht ⟨x, hx⟩
  have hni := newVals_inj h1' ht ⟨x, hx⟩ lv2 (fun L hL => (lv3 L hL).2.1)
  obtain ⟨no1, no2⟩ := newObs_rep hp
  have hn0 : βe.length ≤ βs.length := hA.blen
  -- the new labels
  obtain ⟨nv, hnv⟩ : ∃ nv, nv = newVals D.ss vs := ⟨_, rfl⟩
  obtain ⟨nb, hnb⟩ : ∃ nb, nb = newObs D.ss x := ⟨_, rfl⟩
  rw [← hnv] at hnl hni
  rw [← hnv, ← hnb] at no1
  obtain ⟨βs', hβ⟩ : ∃ βs', βs' = βs.take βe.length ++ nv := ⟨_, rfl⟩
  have hβl : βs'.length = βe.length + nv.length := by rw [hβ]; simp; omega
  have hβo : ∀ L, L < βe.length → bv βs' L = bv βs L := fun L hL => by rw [hβ]; exact bv_take hn0 hL
  have hβn : ∀ i, bv βs' (βe.length + i) = nv.getD i undef := fun i => by rw [hβ]; exact bv_new hn0
  have huo : (unpack D.ss x D.obs).2 = D.obs ++ nb := by rw [hnb]; exact unpack_obs _ _ _
  have hDl := hE.len
  -- which objects there are before the opened ones are set
  have hgo : ∀ L, L < βe.length → getOb (D.obs ++ nb) L = getOb D.obs L := fun L hL => by
    unfold getOb
    simp only [List.getD_eq_getElem?_getD]
    rw [List.getElem?_append_left (by omega)]
  have hgn : ∀ i (hi : i < nb.length), getOb (D.obs ++ nb) (βe.length + i) = nb[i] := fun i hi => by
    unfold getOb
    simp only [List.getD_eq_getElem?_getD]
    rw [List.getElem?_append_right (by omega)]
    simp [hDl, hi]
  -- a label that is old and not opened is dead, or as it was
  have hold : ∀ L, L < βe.length → L ∉ D.labels → getOb D.obs L = getOb st.obs L ∨ getOb D.obs L = .dead := hA.lock
  have hbox : ∀ L ∈ D.labels, ∃ cs, getOb st.obs L = .box cs := fun L hL => by
    obtain ⟨p, hp1, rfl⟩ := List.mem_map.1 hL
    exact cb p hp1
  -- the objects at the head
  obtain ⟨obs', hobs'⟩ : ∃ obs', obs' = openSet D.cnts ((unpack D.ss x D.obs).1.drop D.vary.length) (D.obs ++ nb) := ⟨_, rfl⟩
  -- what is to be shown of the opened ones needs the memory that may be read: so first the lives
  have hlen0 : ∀ (cnts : List (Nat × Nat)) (rvs : List RV) (obs : List Ob), (openSet cnts rvs obs).length = obs.length := by
    intro cnts
    induction cnts with
    | nil => intro rvs obs; rfl
    | cons p r ih => intro rvs obs; rw [show openSet (p :: r) rvs obs = openSet r (rvs.drop p.2) (obs.set p.1 (.box (rvs.take p.2))) from rfl, ih]; simp
  have hother : ∀ (cnts : List (Nat × Nat)) (rvs : List RV) (obs : List Ob) (L : Nat), L ∉ cnts.map (·.1) → getOb (openSet cnts rvs obs) L = getOb obs L := by
    intro cnts
    induction cnts with
    | nil => intro rvs obs L _; rfl
    | cons p r ih =>
      intro rvs obs L hL
      rw [show openSet (p :: r) rvs obs = openSet r (rvs.drop p.2) (obs.set p.1 (.box (rvs.take p.2))) from rfl, ih _ _ _ (fun q => hL (List.mem_cons_of_mem _ q))]
      have hne : p.1 ≠ L := fun e => hL (e ▸ List.mem_cons_self ..)
      unfold getOb
      simp only [List.getD_eq_getElem?_getD, List.getElem?_set, if_neg hne]
  have hobl : obs'.length = βs'.length := by rw [hobs', hlen0, List.length_append, hβl, hDl, no1]
  have hgu : ∀ L, L ∉ D.labels → getOb obs' L = getOb (D.obs ++ nb) L := fun L hL => by rw [hobs']; exact hother _ _ _ _ hL
  have hlabn : ∀ i, βe.length + i ∉ D.labels := fun i hi => by have := (hE.lab _ hi).1; omega
  have hown : ∀ b, Own βs' obs' b → Own βs st.obs b := by
    rintro b ⟨L, hL, q1, q2⟩
    rcases Nat.lt_or_ge L βe.length with hLe | hLe
    · rw [hβo L hLe] at q2
      refine ⟨L, by omega, ?_, q2⟩
      by_cases hlab : L ∈ D.labels
      · obtain ⟨cs, hcs⟩ := hbox L hlab
        rw [hcs]; rfl
      · rw [hgu L hlab, hgo L hLe] at q1
        rcases hold L hLe hlab with q | q
        · rw [← q]; exact q1
        · rw [q] at q1; cases q1
    · obtain ⟨i, rfl⟩ : ∃ i, L = βe.length + i := ⟨L - βe.length, by omega⟩
      rw [hβn i] at q2
      have hi : i < nv.length := by omega
      have hmem : nv.getD i undef ∈ nv := by
        simp only [List.getD_eq_getElem?_getD, List.getElem?_eq_getElem hi, Option.getD_some]
        exact List.getElem_mem hi
      obtain ⟨M, hM, hMl, hMb⟩ := hnl _ hmem b q2
      exact ⟨M, hMl, (lv3 M hM).2.1, hMb⟩
  have hFz : ∀ b, Fz B βs st.obs w b → Fz B βs' obs' w b := fun b hb => by
    rcases hb with hb | hb
    · exact .inl hb
    · exact .inr ⟨hb.1, hb.2.1, fun q => hb.2.2 (hown b q)⟩
  -- what is unpacked
  obtain ⟨ru1, ru2⟩ := unpack_rep (F' := Fz B βs' obs' w) (βs := βe) (βf := βs') (obs := D.obs) hFz hp hDl.symm (fun i hi => by
    rw [← hnv]; exact hβn i) (by rw [List.length_append, ← hnv, hβl]; exact Nat.le_refl _)
  have hvl : vs.length = D.vary.length + vb.length := by rw [hvs]; simp
  have hsrcl := ht.length
  obtain ⟨op1, op2, op3⟩ := openSet_rep (F' := Fz B βs' obs' w) (βs' := βs') (rvs := (unpack D.ss x D.obs).1.drop D.vary.length) (obs := D.obs ++ nb) bb (by rw [List.length_drop, ru1]; omega) (fun i hi => by
      have hi' : D.vary.length + i < (unpack D.ss x D.obs).1.length := by simp at hi; omega
      rw [List.getElem_drop]
      refine ⟨pack_leaf hx _ hi' (by rw [hsrcl, ← ru1]; exact hi') ?_, ?_⟩
      · rw [List.getElem_append_right (by simp)]
        exact lb _ (List.getElem_mem _)
      · have := ru2 (D.vary.length + i) hi' (by omega)
        have e : vb.getD i undef = vs[D.vary.length + i]'(by omega) := by
          have hib : i < vb.length := by omega
          subst hvs
          rw [List.getElem_append_right (by simp)]
          simp [hib]
        rw [e]; exact this) hE.nodup (fun p hp' => by
      have := (hE.lab p.1 (List.mem_map.2 ⟨p, hp', rfl⟩)).1
      exact ⟨by rw [List.length_append]; omega, hβo _ this⟩)
  rw [← hobs'] at op1 op2 op3
  have hhead : (D.head x).obs = obs' := by rw [hobs', ← huo]; rfl
  refine ⟨βs', h1.ext, fun b hb => ?_, fun L L' b hL hL' q1 q2 q3 q4 => ?_, ?_, fun L hL => ?_, fun s => ?_, ?_, hA.ds, hA.keep, fun b hb => ?_, hA.msize, ?_, fun L hL => ?_, fun L hL hw => ?_⟩
  · rw [hhead] at hb
    exact h1.own b (hown b hb)
  · rw [hhead] at q1 q2
    -- an old label
    have oldl : ∀ L, L < βe.length → (getOb obs' L).live = true → (getOb st.obs L).live = true := fun L hLe q => by
      by_cases hlab : L ∈ D.labels
      · obtain ⟨cs, hcs⟩ := hbox L hlab
        rw [hcs]; rfl
      · rw [hgu L hlab, hgo L hLe] at q
        rcases hold L hLe hlab with q' | q'
        · rw [← q']; exact q
        · rw [q'] at q; cases q
    have newl : ∀ i, i < nv.length → ∀ b, bOf (nv.getD i undef) = some b → ∀ L, L < βe.length → (getOb obs' L).live = true → bOf (bv βs L) = some b → False := fun i hi b hb L hLe q hLb => by
      have hmem : nv.getD i undef ∈ nv := by
        simp only [List.getD_eq_getElem?_getD, List.getElem?_eq_getElem hi, Option.getD_some]
        exact List.getElem_mem hi
      obtain ⟨M, hM, hMl, hMb⟩ := hnl _ hmem b hb
      have hLl : L < βs.length := by omega
      have := h1.inj L M b hLl hMl (oldl L hLe q) (lv3 M hM).2.1 hLb hMb
      subst this
      by_cases hlab : L ∈ D.labels
      · obtain ⟨cs, hcs⟩ := hbox L hlab
        exact (lv3 L hM).2.2.1 cs hcs
      · rw [hgu L hlab, hgo L hLe, hsd L hM hLe hlab] at q
        cases q
    rcases Nat.lt_or_ge L βe.length with hLe | hLe <;> rcases Nat.lt_or_ge L' βe.length with hLe' | hLe'
    · rw [hβo L hLe] at q3; rw [hβo L' hLe'] at q4
      exact h1.inj L L' b (by omega) (by omega) (oldl L hLe q1) (oldl L' hLe' q2) q3 q4
    · obtain ⟨i, rfl⟩ : ∃ i, L' = βe.length + i := ⟨L' - βe.length, by omega⟩
      rw [hβo L hLe] at q3; rw [hβn i] at q4
      exact (newl i (by omega) b q4 L hLe q1 q3).elim
    · obtain ⟨i, rfl⟩ : ∃ i, L = βe.length + i := ⟨L - βe.length, by omega⟩
      rw [hβo L' hLe'] at q4; rw [hβn i] at q3
      exact (newl i (by omega) b q3 L' hLe' q2 q4).elim
    · obtain ⟨i, rfl⟩ : ∃ i, L = βe.length + i := ⟨L - βe.length, by omega⟩
      obtain ⟨j, rfl⟩ : ∃ j, L' = βe.length + j := ⟨L' - βe.length, by omega⟩
      rw [hβn i] at q3; rw [hβn j] at q4
      rw [hni i j b q3 q4]
  · rw [hhead, hobl]
  · rw [hhead]
    by_cases hlab : L ∈ D.labels
    · obtain ⟨cs, e1, e2⟩ := op3 L hlab
      rw [e1]; exact e2
    · rw [hgu L hlab]
      rcases Nat.lt_or_ge L βe.length with hLe | hLe
      · rw [hgo L hLe]
        rcases hold L hLe hlab with q | q
        · rcases hE.drops L with q' | q'
          · have g0 := h0.obs L hLe
            have g1 := h1.obs L (by omega)
            rw [← q'] at g0
            rw [← q] at g1
            rw [hβo L hLe]
            exact ObRep.cut (βs := βs) hFz (by omega) hβo g0 g1
          · rw [q']; trivial
        · rw [q]; trivial
      · obtain ⟨i, rfl⟩ : ∃ i, L = βe.length + i := ⟨L - βe.length, by omega⟩
        have hi : i < nv.length := by omega
        rw [hgn i (by omega), hβn i]
        subst hnb
        subst hnv
        have := (no2 i (by omega) hi).2
        have e : (newVals D.ss vs).getD i undef = (newVals D.ss vs)[i] := by simp [hi]
        rw [e]
        have hnob := (no2 i (by omega) hi).1
        -- a new object is an array or a map: it has no labels
        have : ∀ {v : Value} {o : Ob}, ObRep w (Fz B βs st.obs w) [] v o → ObRep w (Fz B βs' obs' w) βs' v o := fun {v o} q => q.mono (fun b hb => ⟨hFz b hb, rfl⟩) (by simp) (by simp) (fun _ _ _ => rfl)
        exact this (no2 i (by omega) hi).2
  · show TVRep P J w _ B.S βs' (tget (setAll D.vary (unpack D.ss x D.obs).1 D.tmps) s) _
    rw [hhead]
    refine tget_setAll (Q := fun tv => TVRep P J w (Fz B βs' obs' w) B.S βs' tv (a.tmps.getD s undef)) (s := s) (rvs := (unpack D.ss x D.obs).1) (vary := D.vary) (tmps := D.tmps) (by rw [ru1, hvl]; omega) (fun i q1 q2 q3 => ?_) fun hs => ?_
    · have := ru2 i q2 (by omega)
      subst hvs
      rw [List.getElem_append_left (by simpa using q1)] at this
      simp only [List.getElem_map, q3] at this
      exact this.toTV
    · rw [hE.tmps, tget_kill]
      by_cases hA' : s ∈ A ++ D.vary
      · rw [if_pos hA']; trivial
      · rw [if_neg hA']
        rw [hA.keep s (fun q => hA' (List.mem_append_left _ q))]
        refine (h0.tmps s).mono (fun b hb => ?_) hA.msize (fun b hb => ⟨hFz b (hA.mono b hb).1, (hA.mono b hb).2⟩) (by omega) (fun L hL => (hβo L hL).trans (hA.bext L hL))
        rw [h1.ext.block b hb.1 hb.2, h0.ext.block b hb.1 hb.2]
  · exact hA.size
  · rw [hhead]
    exact ⟨hFz b (hA.mono b hb).1, (hA.mono b hb).2⟩
  · show βe.length ≤ _
    omega
  · exact (hβo L hL).trans (hA.bext L hL)
  · have hL : L < βe.length := hL
    rw [hhead]
    have hlab : L ∉ D.labels := fun q => by
      have : (D.head x).wr L = true := by
        show Ev.wr _ _ L = true
        unfold Ev.wr
        rw [Bool.or_eq_true]
        right
        exact List.any_eq_true.2 ⟨L, q, by simp⟩
      rw [hw] at this; cases this
    rw [hgu L hlab, hgo L hL]
    rfl

end Go.Proofs.YtbliiipcjbmbiaaGreatDoor.Ev
