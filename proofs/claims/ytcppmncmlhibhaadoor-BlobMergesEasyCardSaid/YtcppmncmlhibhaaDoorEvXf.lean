/- The small evaluator is right: functions that change variables of their caller (this session's own). No condition. -/
import Derived.Test.YtcppmncmlhibhaaDoorEv2
namespace Go.Proofs.YtcppmncmlhibhaaDoor.Ev
open Go.RowKit
set_option linter.unusedVariables false
set_option linter.unusedSimpArgs false

variable {P : Program} {J : Inv} {Γ : Ctx} {B : Base} {C : LBase} {βs : List Value} {st : St} {a : Act} {w w' : World} {obs obs1 obs2 : List Ob}

theorem xdead_len : ∀ (cs : List Nat), (xdead cs).length = cs.length
  | [] => rfl
  | _ :: r => by simp [xdead, xdead_len r]
theorem cnts0_fst : ∀ (cs : List Nat) (i : Nat), (cnts0 i cs).map (·.1) = (List.range cs.length).map (i + ·)
  | [], i => rfl
  | c :: cs, i => by
    show i :: (cnts0 (i + 1) cs).map (·.1) = _
    rw [cnts0_fst cs (i + 1), List.length_cons, List.range_succ_eq_map, List.map_cons, List.map_map]
    simp only [Nat.add_zero, List.cons.injEq, true_and]
    refine List.map_congr_left fun j _ => ?_
    show i + 1 + j = i + (j + 1)
    omega
theorem cnts0_lt {cs : List Nat} {p : Nat × Nat} (h : p ∈ cnts0 0 cs) : p.1 < cs.length := by
  have : p.1 ∈ (cnts0 0 cs).map (·.1) := List.mem_map_of_mem h
  rw [cnts0_fst] at this
  obtain ⟨j, hj, e⟩ := List.mem_map.1 this
  have := List.mem_range.1 hj
  omega
theorem cnts0_mem {cs : List Nat} {L : Nat} : L ∈ (cnts0 0 cs).map (·.1) ↔ L < cs.length := by
  rw [cnts0_fst, List.mem_map]
  constructor
  · rintro ⟨j, hj, rfl⟩
    have := List.mem_range.1 hj; omega
  · intro h
    exact ⟨L, List.mem_range.2 h, by omega⟩
theorem cnts0_nodup (cs : List Nat) : ((cnts0 0 cs).map (·.1)).Nodup := by
  rw [cnts0_fst]
  refine List.pairwise_map.2 (List.nodup_range.imp fun hne e => hne ?_)
  omega
theorem BoxVals.same {βs' : List Value} : ∀ {cnts : List (Nat × Nat)} {vs : List Value}, (∀ p ∈ cnts, bv βs' p.1 = bv βs p.1) → BoxVals w βs cnts vs → BoxVals w βs' cnts vs
  | [], _, _, h => h
  | p :: r, vs, hb, ⟨b, c, t, fr, q, e1, e2, e3, e4, e5, e6⟩ => ⟨b, c, t, fr, q, e1, (hb p (List.mem_cons_self ..)).trans e2, e3, e4, e5, BoxVals.same (fun p' hp => hb p' (List.mem_cons_of_mem _ hp)) e6⟩

theorem xtvs_rep {F S : Nat → Prop} {bls : List Nat} {βf : List Value} (hb : ∀ i b, bls[i]? = some b → i < βf.length ∧ bv βf i = ptrV b) : ∀ {ps : List XPm} {vals pv : List Value} {tvs : List TV}, XArgs bls ps vals pv → tvs.length = pv.length →
    (∀ (i : Nat) tv, tvs[i]? = some tv → TVRep P J w F S βf tv (pv.getD i undef)) → (xtvs ps tvs).length = vals.length ∧ ∀ (i : Nat) tv, (xtvs ps tvs)[i]? = some tv → TVRep P J w F S βf tv (vals.getD i undef)
  | [], _, _, tvs, ⟨rfl, rfl⟩, _, _ => ⟨rfl, fun i tv h => by simp [xtvs] at h⟩
  | .pl p :: ps, _, _, tvs, ⟨v, r, q, rfl, rfl, h⟩, hl, ht => by
    cases tvs with
    | nil => simp at hl
    | cons tv0 tvs =>
      obtain ⟨g1, g2⟩ := xtvs_rep hb h (by simpa using hl) (fun i tv hi => by
        have := ht (i + 1) tv (by simpa using hi)
        simpa using this)
      refine ⟨by simp [xtvs, g1], fun i tv hi => ?_⟩
      cases i with
      | zero =>
        have := ht 0 tv (by simpa [xtvs] using hi)
        simpa using this
      | succ i =>
        have := g2 i tv (by simpa [xtvs] using hi)
        simpa using this
  | .bx j :: ps, _, pv, tvs, ⟨b, r, hj, rfl, h⟩, hl, ht => by
    obtain ⟨g1, g2⟩ := xtvs_rep hb h hl ht
    refine ⟨by simp [xtvs, g1], fun i tv hi => ?_⟩
    cases i with
    | zero =>
      have e : tv = .ptr j 0 := by simpa [xtvs] using hi.symm
      subst e
      obtain ⟨q1, q2⟩ := hb j b hj
      exact ⟨q1, b, q2, rfl⟩
    | succ i =>
      have := g2 i tv (by simpa [xtvs] using hi)
      simpa using this
  | .clo g is :: ps, _, pv, tvs, ⟨bs, r, hj, rfl, h⟩, hl, ht => by
    obtain ⟨g1, g2⟩ := xtvs_rep hb h hl ht
    refine ⟨by simp [xtvs, g1], fun i tv hi => ?_⟩
    cases i with
    | zero =>
      have e : tv = .fn g is := by simpa [xtvs] using hi.symm
      subst e
      have key : ∀ (is bs : List Nat), is.map (fun i => bls[i]?) = bs.map some → (∀ L ∈ is, L < βf.length ∧ ∃ b, bv βf L = .pointer (some ⟨b, 0, none⟩)) ∧ is.map (bv βf) = bs.map ptrV := by
        intro is
        induction is with
        | nil =>
          intro bs hh
          cases bs with
          | nil => exact ⟨by simp, rfl⟩
          | cons _ _ => simp at hh
        | cons i is ih =>
          intro bs hh
          cases bs with
          | nil => simp at hh
          | cons b bs =>
            simp only [List.map_cons, List.cons.injEq] at hh
            obtain ⟨k1, k2⟩ := ih bs hh.2
            obtain ⟨q1, q2⟩ := hb i b hh.1
            refine ⟨fun L hL => ?_, by rw [List.map_cons, List.map_cons, q2, k2]⟩
            rcases List.mem_cons.1 hL with rfl | hL
            · exact ⟨q1, b, q2⟩
            · exact k1 L hL
      obtain ⟨k1, k2⟩ := key is bs hj
      refine ⟨k1, ?_⟩
      rw [k2]; rfl
    | succ i =>
      have := g2 i tv (by simpa [xtvs] using hi)
      simpa using this

def xBase (B : Base) (βf : List Value) (ob : List Ob) : LBase := { kept := fun _ => False, V := fun _ => undef, Fb := fun _ => False, wb := B.w0, βb := βf, ob := ob }

theorem xstart_rep (hB : B.Ok J) {cs : List Nat} {ss : List SV} {ps : List XPm} (hleaf : ss.all SV.leaf = true) {x : XT ss} {xs : PT (plains ps)} {vals pv : List Value} {bls : List Nat} {vs : List Value} {n : Nat} (hn : ps.length ≤ n)
    (hxa : XArgs bls ps vals pv) (hbl : bls.length = cs.length) (h : ArgsRep P J B.w0 B.F0 B.S (plains ps) xs pv) (hbv : BoxVals B.w0 (bls.map ptrV) (cnts0 0 cs) vs) (hpk : PacksRep B.w0 B.F0 ss x vs)
    (hnd : (ownBs (plains ps) pv ++ blks (newVals ss vs) ++ bls).Nodup) (hG : ∀ b ∈ ownBs (plains ps) pv ++ blks (newVals ss vs) ++ bls, B.G b ∧ b < B.n0) :
    Rep P J B (xBase B (bls.map ptrV ++ newVals ss vs ++ argVals (plains ps) pv) (xstart cs ss ps n x xs).obs) (bls.map ptrV ++ newVals ss vs ++ argVals (plains ps) pv) (xstart cs ss ps n x xs) (actOf vals n) B.w0 := by
  obtain ⟨βf, hβf⟩ : ∃ βf, βf = bls.map ptrV ++ newVals ss vs ++ argVals (plains ps) pv := ⟨_, rfl⟩
  rw [← hβf]
  have hblL : (bls.map ptrV).length = (xdead cs).length := by rw [List.length_map, xdead_len, hbl]
  have hb1 : ∀ i, i < bls.length → bv βf i = bv (bls.map ptrV) i := fun i hi => by
    rw [hβf, List.append_assoc, bv_app, if_pos (by simpa using hi)]
  have hbn : ∀ i, bv βf (bls.length + i) = (newVals ss vs ++ argVals (plains ps) pv).getD i undef := fun i => by
    rw [hβf, List.append_assoc, bv_app, if_neg (by simp), List.length_map, Nat.add_sub_cancel_left]; rfl
  obtain ⟨no1, no2⟩ := newObs_rep hpk
  obtain ⟨u1, u2⟩ := unpack_rep (F' := B.F0) (obs := xdead cs) (βs := bls.map ptrV) (βf := βf) (fun _ q => q) hpk hblL (fun i hi => by
    rw [List.length_map, hbn]
    rw [List.length_append, List.length_map] at hi
    simp [List.getElem?_append_left (show i < (newVals ss vs).length by omega)]) (by rw [hβf]; simp)
  have hul := unpack_leafS (ss := ss) (x := x) (obs := xdead cs) hleaf
  obtain ⟨s1, s2, s3⟩ := openSet_rep (w := B.w0) (F' := B.F0) (βs := bls.map ptrV) (βs' := βf) (cnts := cnts0 0 cs) (rvs := (unpack ss x (xdead cs)).1) (obs := (unpack ss x (xdead cs)).2) hbv u1 (fun i hi => ⟨hul i hi, by
    have := u2 i hi (by omega)
    have e : vs.getD i undef = vs[i]'(by omega) := by simp [show i < vs.length by omega]
    rw [e]; exact this⟩) (cnts0_nodup cs) (fun p hp => by
    have := cnts0_lt hp
    refine ⟨?_, hb1 _ (by omega)⟩
    rw [unpack_obs, List.length_append, xdead_len]; omega)
  have hu2 : (unpack ss x (xdead cs)).2 = xdead cs ++ newObs ss x := unpack_obs _ _ _
  have hxl : (xobs cs ss x).length = bls.length + (newVals ss vs).length := by
    show (openSet _ _ _).length = _
    rw [s1, hu2, List.length_append, xdead_len, hbl, no1]
  obtain ⟨g1, g2, g3, g4, g5⟩ := enterAll_rep (obs := xobs cs ss x) (βs := bls.map ptrV ++ newVals ss vs) (βf := βf) h (by rw [hxl]; simp) (fun i hi => by
    rw [hβf, bv_app, if_neg (by simp), Nat.add_sub_cancel_left]; rfl) (by rw [hβf]; simp)
  have hobs : (xstart cs ss ps n x xs).obs = xobs cs ss x ++ argObs (plains ps) xs := g1
  have hlen : βf.length = (xobs cs ss x ++ argObs (plains ps) xs).length := by rw [hβf, List.length_append, List.length_append, List.length_append, List.length_map, hxl, g2]
  -- the blocks
  have hperm : (blks βf).Perm (ownBs (plains ps) pv ++ blks (newVals ss vs) ++ bls) := by
    have e1 : blks (bls.map ptrV) = bls := by
      unfold blks
      rw [List.flatMap_map]
      show bls.flatMap (fun b => [b]) = bls
      rw [List.flatMap_singleton']
    have e2 : blks βf = bls ++ blks (newVals ss vs) ++ ownBs (plains ps) pv := by
      rw [hβf, ownBs_vals]
      show (bls.map ptrV ++ newVals ss vs ++ argVals (plains ps) pv).flatMap _ = _
      rw [List.flatMap_append, List.flatMap_append]
      show blks (bls.map ptrV) ++ _ ++ _ = _
      rw [e1]; rfl
    rw [e2, List.append_assoc]
    exact List.perm_append_comm.trans (List.Perm.append_right _ List.perm_append_comm)
  have hndf : (blks βf).Nodup := hperm.nodup_iff.2 hnd
  have hown : ∀ b, Own βf (xobs cs ss x ++ argObs (plains ps) xs) b → B.G b ∧ b < B.n0 := by
    rintro b ⟨L, hL, _, q⟩
    refine hG b (hperm.mem_iff.1 (List.mem_flatMap.2 ⟨βf[L], List.getElem_mem hL, ?_⟩))
    have : bv βf L = βf[L] := by simp [bv, hL]
    rw [this] at q
    rw [q]; simp
  have hF : ∀ b, B.F0 b → Fz B βf (xobs cs ss x ++ argObs (plains ps) xs) B.w0 b ∧ B.w0.heap[b]? = B.w0.heap[b]? := fun b hb => ⟨.inl hb, rfl⟩
  obtain ⟨t1, t2⟩ := xtvs_rep (bls := bls) (βf := βf) (fun i b hi => by
    have hi' : i < bls.length := (List.getElem?_eq_some_iff.1 hi).1
    refine ⟨by rw [hβf]; simp; omega, ?_⟩
    rw [hb1 i hi']
    unfold bv
    rw [List.getD_eq_getElem?_getD, List.getElem?_map, hi]; rfl) hxa g3 g4
  have hpl : ∀ {ps : List XPm} {vals pv : List Value}, XArgs bls ps vals pv → vals.length = ps.length := by
    intro ps
    induction ps with
    | nil => rintro vals pv ⟨rfl, rfl⟩; rfl
    | cons p ps ih =>
      intro vals pv hh
      cases p with
      | pl p => obtain ⟨v, r, q, rfl, rfl, hh⟩ := hh; simp [ih hh]
      | bx i => obtain ⟨b, r, _, rfl, hh⟩ := hh; simp [ih hh]
      | clo g is => obtain ⟨bs, r, _, rfl, hh⟩ := hh; simp [ih hh]
  have hvl := hpl hxa
  refine ⟨⟨rfl, rfl, rfl, Nat.le_refl _, fun _ _ _ => rfl⟩, fun b hb => ?_, fun L L' b _ _ _ _ q1 q2 => nodup_flat hndf L L' b q1 q2, by rw [hobs]; exact hlen, fun L hL => ?_, fun s => ?_, ?_, rfl, fun s hs => hs.elim, fun b hb => hb.elim, Nat.le_refl _, Nat.le_refl _, fun L hL => rfl, fun L hL _ => rfl⟩
  · rw [hobs] at hb
    have := hown b hb
    exact ⟨.inr this.1, this.2⟩
  · rw [hobs, getOb_app]
    by_cases q : L < (xobs cs ss x).length
    · rw [if_pos q]
      by_cases qb : L < cs.length
      · obtain ⟨cc, c1, c2⟩ := s3 L (cnts0_mem.2 qb)
        show ObRep B.w0 _ βf (bv βf L) (getOb (openSet _ _ _) L)
        rw [c1]
        exact c2.mono hF (Nat.le_refl _) (fun _ _ => rfl) (fun _ _ _ => rfl)
      · have e : getOb (xobs cs ss x) L = getOb (newObs ss x) (L - cs.length) := by
          show getOb (openSet _ _ _) L = _
          rw [s2 L (fun z => qb (cnts0_mem.1 z)), hu2, getOb_app, if_neg (by rw [xdead_len]; exact qb), xdead_len]
        rw [e]
        have hi : L - cs.length < (newVals ss vs).length := by omega
        obtain ⟨k1, k2⟩ := no2 (L - cs.length) (by omega) hi
        have e1 : getOb (newObs ss x) (L - cs.length) = (newObs ss x)[L - cs.length]'(by omega) := by
          unfold getOb; rw [List.getD_eq_getElem?_getD, List.getElem?_eq_getElem (by omega)]; rfl
        have e2 : bv βf L = (newVals ss vs)[L - cs.length] := by
          have := hbn (L - cs.length)
          rw [hbl, show cs.length + (L - cs.length) = L by omega] at this
          rw [this, List.getD_eq_getElem?_getD, List.getElem?_append_left hi, List.getElem?_eq_getElem hi]; rfl
        rw [e1, e2]
        exact k2.mono hF (Nat.zero_le _) (fun _ z => by cases z) (fun _ _ _ => rfl)
    · rw [if_neg q]
      have hi : L - (xobs cs ss x).length < (argObs (plains ps) xs).length := by rw [hlen, List.length_append] at hL; omega
      obtain ⟨e, l, q1, q2⟩ := g5 (L - (xobs cs ss x).length) hi
      have e1 : getOb (argObs (plains ps) xs) (L - (xobs cs ss x).length) = .arr e l := by
        unfold getOb
        rw [List.getD_eq_getElem?_getD, List.getElem?_eq_getElem hi, q1]; rfl
      have e2 : bv βf L = (argVals (plains ps) pv).getD (L - (xobs cs ss x).length) undef := by
        rw [hβf, bv_app, if_neg (by simp; omega), hxl]
        simp [bv]
      rw [e1, e2]
      exact q2.mono hF (Nat.zero_le _) (fun _ z => by cases z) (fun _ _ _ => rfl)
  · show TVRep P J B.w0 _ B.S _ (tget (number 0 (xtvs ps (enterAll (plains ps) xs (xobs cs ss x)).1)) s) _
    rw [tget_number, if_pos (Nat.zero_le _), Nat.sub_zero, hobs]
    rcases Nat.lt_or_ge s (xtvs ps (enterAll (plains ps) xs (xobs cs ss x)).1).length with q | q
    · have := t2 s _ (List.getElem?_eq_getElem q)
      have e : (actOf vals n).tmps.getD s undef = vals.getD s undef := by
        have hs : s < vals.length := by omega
        simp [actOf, hs, Array.getElem?_append]
      rw [e]
      have e2 : (xtvs ps (enterAll (plains ps) xs (xobs cs ss x)).1).getD s TV.dead = (xtvs ps (enterAll (plains ps) xs (xobs cs ss x)).1)[s] := by simp [q]
      rw [e2]
      exact this.mono (fun _ _ => rfl) (Nat.le_refl _) hF (Nat.le_refl _) (fun _ _ => rfl)
    · have e2 : (xtvs ps (enterAll (plains ps) xs (xobs cs ss x)).1).getD s TV.dead = .dead := by simp [List.getElem?_eq_none q]
      rw [e2]; trivial
  · show (vals.toArray ++ Array.replicate (n - vals.toArray.size) undef).size = n
    simp; omega

/-! ### it ends -/
theorem packOne_drops (hd : Drops obs obs1) {s : SV} {tv : TV} {x : s.T} (h : packOne s tv obs1 = some x) : packOne s tv obs = some x := by
  cases s with
  | val k => exact h
  | arr e =>
    cases tv with
    | arr L =>
      simp only [packOne] at h ⊢
      split at h
      · rename_i e' l ho
        rw [← hd.live (by rw [ho]; simp), ho]; exact h
      · cases h
    | _ => exact h
  | map kk kv =>
    cases tv with
    | map L =>
      simp only [packOne] at h ⊢
      split at h
      · rename_i kk' kv' m ho
        rw [← hd.live (by rw [ho]; simp), ho]; exact h
      · cases h
    | _ => exact h
theorem pack_drops (hd : Drops obs obs1) : ∀ {ss : List SV} {tvs : List TV} {x : XT ss}, pack ss tvs obs1 = some x → pack ss tvs obs = some x
  | [], [], _, h => h
  | [s], [tv], x, h => packOne_drops hd h
  | s :: t :: r, tv :: tvs, x, h => by
    simp only [pack] at h
    split at h
    · rename_i y ys hy hys
      cases h
      have h1 := packOne_drops hd hy
      have h2 := pack_drops hd hys
      simp only [pack, h1, h2]
    · cases h
  | [], _ :: _, _, h => by simp [pack] at h
  | [_], [], _, h => by simp [pack] at h
  | _ :: _ :: _, [], _, h => by simp [pack] at h
  | [_], _ :: _ :: _, _, h => by simp [pack] at h
theorem srcObs_drops (hd : Drops obs obs1) : ∀ {cnts : List (Nat × Nat)} {tvs : List TV}, srcObs cnts obs1 = some tvs → srcObs cnts obs = some tvs ∧ ∀ p ∈ cnts, (getOb obs1 p.1).live = true ∧ ∃ cs, getOb obs1 p.1 = .box cs
  | [], tvs, h => ⟨h, by simp⟩
  | (L, n) :: r, tvs, h => by
    simp only [srcObs] at h
    split at h
    · rename_i cs ho
      split at h
      · rename_i hn
        split at h
        · rename_i b hb
          cases h
          obtain ⟨g1, g2⟩ := srcObs_drops hd hb
          refine ⟨?_, fun p hp => ?_⟩
          · simp only [srcObs]
            rw [← hd.live (by rw [ho]; simp), ho]
            simp only [hn, g1]
          · rcases List.mem_cons.1 hp with rfl | hp
            · exact ⟨by rw [ho]; rfl, cs, ho⟩
            · exact g2 p hp
        · cases h
      · cases h
    · cases h

theorem xfinish_ok (hΓ : CtxOK P J Γ) (hB : B.Ok J) {fn : Func} {F : XFn} {bls : List Nat} (hbl : bls.length = F.cs.length) (hb0 : ∀ i, i < bls.length → i < βs.length ∧ bv βs i = bv (bls.map ptrV) i) {y : OT F.rs × XT F.ss} (h : Rep P J B C βs st a w) (hf : xfinish Γ F.cs F.ss F.rs fn.results.toList st = some y) :
    ∃ v, (results fn a.tmps).run P w = .ok v w ∧ XPost B F bls y (.returned v) w := by
  unfold xfinish at hf
  split at hf
  case h_2 => cases hf
  rename_i tvs st1 hr
  split at hf
  case h_2 => cases hf
  rename_i obs2 hg
  split at hf
  case h_2 => cases hf
  rename_i src hsrc
  split at hf
  case h_2 => cases hf
  rename_i obs3 x hlv hpk
  split at hf
  case h_2 => cases hf
  rename_i y1 hret
  cases hf
  obtain ⟨vs, g1, g2, g3, g4, g5⟩ := resTVs_ok hΓ (h.toRep' hB) h.tmps hr
  have h1 := g2.rep' (h.toRep' hB)
  obtain ⟨m1, m2, m3, m4, m5, m6⟩ := moved_ok h1 ⟨rfl, fun _ => .inl rfl⟩ (fun _ q => q) hg g3 (fun _ _ _ => rfl)
  rw [← ownRs_pm] at m3 m4
  obtain ⟨hsrc1, hlive2⟩ := srcObs_drops m1 hsrc
  have hpk1 := pack_drops m1 hpk
  obtain ⟨vb, hsv, hbv, _, _⟩ := srcObs_rep h1 hsrc1
  obtain ⟨lv1, lv2, lv3, lv4, lv5⟩ := leave_ok hlv
  have hlen := h1.obs.len
  have hlt : ∀ L, L < F.cs.length → L < st1.obs.length := fun L hL => by
    rw [← hlen]
    exact (hb0 L (by omega)).1
  obtain ⟨kl1, kl2, kl3⟩ := killObs_ok (Ls := (cnts0 0 F.cs).map (·.1)) (obs := obs3) (fun L hL => by rw [lv1.1, m1.1]; exact hlt L (cnts0_mem.1 hL))
  have hd3 : Drops obs2 (killObs ((cnts0 0 F.cs).map (·.1)) obs3) := ⟨kl1.trans lv1.1, fun M => by
    by_cases q : M ∈ (cnts0 0 F.cs).map (·.1)
    · exact .inr (kl2 M q)
    · rw [kl3 M q]; exact lv1.2 M⟩
  have hd4 : Drops st1.obs (killObs ((cnts0 0 F.cs).map (·.1)) obs3) := ⟨hd3.1.trans m1.1, fun M => by
    rcases hd3.2 M with q | q
    · rw [q]; exact m1.2 M
    · exact .inr q⟩
  have lv2live : ∀ {L}, (getOb obs2 L).live = true → (getOb st1.obs L).live = true := fun {L} hL => by
    rw [← m1.live (fun e => by rw [e] at hL; cases hL)]; exact hL
  have hptr : ∀ L, L < F.cs.length → bv βs L = ptrV (bls[L]?.getD 0) := fun L hL => by
    rw [(hb0 L (by omega)).2]
    unfold bv
    rw [List.getD_eq_getElem?_getD, List.getElem?_map, List.getElem?_eq_getElem (by omega)]; rfl
  have hlive : ∀ L, L < F.cs.length → (getOb obs2 L).live = true ∧ ∃ cs, getOb obs2 L = .box cs := fun L hL => by
    obtain ⟨p, hp, rfl⟩ := List.mem_map.1 (cnts0_mem.2 hL)
    exact hlive2 p hp
  have hnv := newVals_own hsv ⟨x, hpk1⟩
  have hnvi := newVals_inj h1 hsv ⟨x, hpk1⟩ lv2 (fun L hL => lv2live (lv3 L hL).2.1)
  -- what is told of: not the call's own any more
  have hgone : ∀ {L b}, L < βs.length → (getOb obs2 L).live = true → getOb (killObs ((cnts0 0 F.cs).map (·.1)) obs3) L = .dead → bOf (bv βs L) = some b → Own βs obs2 b ∧ ¬ Own βs (killObs ((cnts0 0 F.cs).map (·.1)) obs3) b := fun {L b} q1 q2 q3 q4 => by
    refine ⟨⟨L, q1, q2, q4⟩, ?_⟩
    rintro ⟨M, hM, n1, n2⟩
    have n3 : (getOb obs2 M).live = true := by rw [← hd3.live (fun e => by rw [e] at n1; cases n1)]; exact n1
    have := h1.inj L M b q1 hM (lv2live q2) (lv2live n3) q4 n2
    subst this
    rw [q3] at n1; cases n1
  have hbd : ∀ b ∈ bls, Own βs obs2 b ∧ ¬ Own βs (killObs ((cnts0 0 F.cs).map (·.1)) obs3) b := fun b hb => by
    obtain ⟨i, hi, rfl⟩ := List.getElem_of_mem hb
    refine hgone (L := i) (hb0 i hi).1 (hlive i (by omega)).1 (kl2 i (cnts0_mem.2 (by omega))) ?_
    rw [hptr i (by omega), List.getElem?_eq_getElem hi]; rfl
  have hsd : ∀ L ∈ srcLabels src, ¬ L < F.cs.length ∧ getOb (killObs ((cnts0 0 F.cs).map (·.1)) obs3) L = .dead := fun L hL => by
    have q := lv3 L hL
    have hn : ¬ L < F.cs.length := fun q2 => by
      obtain ⟨cs, hcs⟩ := (hlive L q2).2
      exact q.2.2.1 cs hcs
    exact ⟨hn, by rw [kl3 L (fun z => hn (cnts0_mem.1 z))]; exact q.2.2.2⟩
  have hnvd : ∀ b ∈ blks (newVals F.ss vb), Own βs obs2 b ∧ ¬ Own βs (killObs ((cnts0 0 F.cs).map (·.1)) obs3) b := fun b hb => by
    obtain ⟨v, hv, hvb⟩ := mem_blks hb
    obtain ⟨L, hL, q1, q2⟩ := hnv v hv b hvb
    exact hgone q1 (lv3 L hL).2.1 (hsd L hL).2 q2
  let own := ownRs F.rs vs ++ blks (newVals F.ss vb) ++ bls
  have hown1 : ∀ b ∈ own, Own βs st1.obs b ∧ ¬ Own βs (killObs ((cnts0 0 F.cs).map (·.1)) obs3) b := fun b hb => by
    rcases List.mem_append.1 hb with hb | hb
    · rcases List.mem_append.1 hb with hb | hb
      · exact ⟨(m4 b hb).1, fun q => (m4 b hb).2 (hd3.own q)⟩
      · exact ⟨m5 b (hnvd b hb).1, (hnvd b hb).2⟩
    · exact ⟨m5 b (hbd b hb).1, (hbd b hb).2⟩
  have hbls : bls.Nodup := by
    refine List.pairwise_iff_getElem.2 fun i j hi hj hij e => ?_
    have e1 : bOf (bv βs i) = some bls[i] := by rw [hptr i (by omega), List.getElem?_eq_getElem hi]; rfl
    have e2 : bOf (bv βs j) = some bls[i] := by rw [hptr j (by omega), List.getElem?_eq_getElem hj, e]; rfl
    have := h1.inj i j _ (hb0 i hi).1 (hb0 j hj).1 (lv2live (hlive i (by omega)).1) (lv2live (hlive j (by omega)).1) e1 e2
    omega
  have hnd : own.Nodup := by
    refine List.nodup_append.2 ⟨List.nodup_append.2 ⟨m3, blks_nodup hnvi, fun a ha b hb e => ?_⟩, hbls, fun a ha b hb e => ?_⟩
    · subst e; exact (m4 a ha).2 (hnvd a hb).1
    · subst e
      rcases List.mem_append.1 ha with ha | ha
      · exact (m4 a ha).2 (hbd a hb).1
      · obtain ⟨v, hv, hvb⟩ := mem_blks ha
        obtain ⟨M, hM, q1, q2⟩ := hnv v hv _ hvb
        obtain ⟨i, hi, rfl⟩ := List.getElem_of_mem hb
        have := h1.inj i M _ (hb0 i hi).1 q1 (lv2live (hlive i (by omega)).1) (lv2live (lv3 M hM).2.1) (by rw [hptr i (by omega), List.getElem?_eq_getElem hi]; rfl) q2
        subst this
        exact (hsd i hM).1 (by omega)
  have hFz : ∀ b, Fz B βs st1.obs w b → RetF B own w b := fun b hb => by
    rcases hb with hb | hb
    · exact .inl hb
    · exact .inr ⟨hb.1, hb.2.1, fun q => hb.2.2 (hown1 b q).1⟩
  refine ⟨tupV vs, results_run g1, vs, vb, own, rfl, rfl, ?_, (pack_rep h1 hsv hpk1).mono hFz, BoxVals.same (fun p hp => ?_) hbv, hnd, fun b hb => h1.own b (hown1 b hb).1, h.ext⟩
  · refine retAll_rep h1 hd4 hFz (fun b hb => ?_) g3 hret
    have := h1.own b (hd4.own hb)
    exact .inr ⟨this.1, this.2, fun q => (hown1 b q).2 hb⟩
  · have := cnts0_lt hp
    exact ((hb0 p.1 (by omega)).2).symm

/-- ████ a function of the program that changes variables of its caller is what the evaluator says ████ -/
theorem xOK_of (hΓ : CtxOK P J Γ) {g : Nat} {F : XFn} {fn : Func} {c : Code} (hf : P.funcs[g]? = some fn) (hb : fn.body = some c) (hnm : (fn.name == "runtime.NumGoroutine") = false) (hn : F.ps.length ≤ fn.ntmps) (hleaf : F.ss.all SV.leaf = true)
    (he : ∀ k x xs, F.f k x xs = runX Γ k F.cs F.ss F.ps F.rs fn.ntmps fn.results.toList c x xs) : XOK P J g F :=
  ⟨⟨fn, hf, by rw [hb]; rfl, hnm⟩, hleaf, fun k B vals pv bls vs x xs y hB hxa hbl hargs hbv hpk hnd hG hy => by
    rw [he k x xs] at hy
    refine calls_of_wp hf hb ?_
    have h0 := xstart_rep (cs := F.cs) (n := fn.ntmps) hB hleaf hn hxa hbl hargs hbv hpk hnd hG
    have fin : ∀ (βs : List Value) (st : St) (a : Act) (w : World), Rep P J B (xBase B (bls.map ptrV ++ newVals F.ss vs ++ argVals (plains F.ps) pv) (xstart F.cs F.ss F.ps fn.ntmps x xs).obs) βs st a w → SameLocks (xstart F.cs F.ss F.ps fn.ntmps x xs) st → xfinish Γ F.cs F.ss F.rs fn.results.toList st = some y → a.defers = [] ∧ ∃ v, (results fn a.tmps).run P w = .ok v w ∧ XPost B F bls y (.returned v) w := fun βs st a w h1 _ he1 =>
      ⟨h1.defers, xfinish_ok hΓ hB hbl (fun i hi => by
        have hi' : i < (bls.map ptrV ++ newVals F.ss vs ++ argVals (plains F.ps) pv).length := by simp; omega
        have q1 := h1.bext i hi'
        refine ⟨Nat.lt_of_lt_of_le hi' h1.blen, q1.trans ?_⟩
        show bv (bls.map ptrV ++ newVals F.ss vs ++ argVals (plains F.ps) pv) i = _
        rw [List.append_assoc, bv_app, if_pos (by simpa using hi)]) h1 he1⟩
    exact exec_ok hΓ hB (k := k) (r := y) c (C := xBase B (bls.map ptrV ++ newVals F.ss vs ++ argVals (plains F.ps) pv) (xstart F.cs F.ss F.ps fn.ntmps x xs).obs) (E := ⟨fun _ _ => none, xfinish Γ F.cs F.ss F.rs fn.results.toList⟩) (K := xfinish Γ F.cs F.ss F.rs fn.results.toList) (Q := bodyPost P fn (XPost B F bls y)) (st0 := xstart F.cs F.ss F.ps fn.ntmps x xs) (fun _ _ q => q) fin (fun id βs st a w _ _ q => (by cases q)) fin h0 ⟨rfl, rfl, rfl⟩ hy⟩

end Go.Proofs.YtcppmncmlhibhaaDoor.Ev
