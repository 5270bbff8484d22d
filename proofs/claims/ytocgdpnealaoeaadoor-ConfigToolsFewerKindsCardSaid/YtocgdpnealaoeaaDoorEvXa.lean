/- The small evaluator's rule for calls that change variables of the caller is right (this session's own). No condition. -/
import Derived.Test.YtocgdpnealaoeaaDoorEvU
namespace Go.Proofs.YtocgdpnealaoeaaDoor.Ev
open Go.RowKit
set_option linter.unusedVariables false
set_option linter.unusedSimpArgs false

variable {P : Program} {J : Inv} {Γ : Ctx} {B : Base} {C : LBase} {βs : List Value} {st : St} {a : Act} {w w' : World} {obs obs' obs1 obs2 : List Ob} {wr : Nat → Bool} {tv : TV}

theorem allWr_all {wr : Nat → Bool} : ∀ {l : List Nat}, allWr wr l = true → ∀ L ∈ l, wr L = true
  | [], _ => by simp
  | a :: r, h => by
    simp only [allWr, Bool.and_eq_true] at h
    intro L hL
    rcases List.mem_cons.1 hL with rfl | hL
    · exact h.1
    · exact allWr_all h.2 L hL
theorem nodupB_nodup : ∀ {l : List Nat}, nodupB l = true → l.Nodup
  | [], _ => by simp
  | a :: r, h => by
    simp only [nodupB, Bool.and_eq_true, Bool.not_eq_true'] at h
    refine List.nodup_cons.2 ⟨fun hm => ?_, nodupB_nodup h.2⟩
    have := List.any_eq_true.2 ⟨a, hm, (by simp : Nat.beq a a = true)⟩
    rw [h.1] at this; cases this

/-- the state behind a call that changed variables -/
theorem Rep'.calledX (h : Rep' P J B βs obs w) (hd : Drops obs obs1) (hrel : FrzRel obs1 obs2) (hlock : ∀ M, M < obs.length → wr M = false → getOb obs2 M = getOb obs M)
    {gs : List Nat} (hgs : ∀ b ∈ gs, Own βs obs b ∧ ¬ Own βs obs1 b)
    (hos : w'.os = w.os) (htp : w'.tape = w.tape) (hout : w'.output = w.output) (hsz : w.heap.size ≤ w'.heap.size) (hblk : ∀ b, b < w.heap.size → b ∉ gs → w'.heap[b]? = w.heap[b]?)
    {Ls : List Nat} (hLs : ∀ L ∈ Ls, L < βs.length ∧ wr L = true ∧ (getOb obs L).live = true ∧ ∃ b, bOf (bv βs L) = some b ∧ b ∈ gs)
    {vs : List Value} {news : List Ob} (hlen : news.length = vs.length) {own : List Nat} (hown0 : own = blks vs ++ Ls.flatMap fun L => (bOf (bv βs L)).toList) (hnd : own.Nodup) (hvb : ∀ b ∈ own, (w.heap.size ≤ b ∨ b ∈ gs) ∧ b < w'.heap.size)
    {obs' : List Ob} (hl' : obs'.length = obs2.length + news.length) (hold : ∀ M, M < obs2.length → M ∉ Ls → getOb obs' M = getOb obs2 M) (hnw : ∀ i, i < news.length → getOb obs' (obs2.length + i) = getOb news i)
    {F' : Nat → Prop} (hnew : ∀ (i : Nat) (h1 : i < news.length) (h2 : i < vs.length), news[i].live = true ∧ ObRep w' F' [] vs[i] news[i])
    (hbox : ∀ L ∈ Ls, ∃ cs, getOb obs' L = .box cs ∧ ObRep w' F' (βs ++ vs) (bv βs L) (.box cs))
    (hF' : ∀ b, F' b → (Fz B βs obs w b ∨ (Own βs obs1 b ∧ ¬ Own βs obs2 b) ∨ ((w.heap.size ≤ b ∨ b ∈ gs) ∧ b < w'.heap.size ∧ b ∉ own))) :
    Step B βs obs wr w (βs ++ vs) obs' w' ∧ ∀ b, F' b → Fz B (βs ++ vs) obs' w' b := by
  have hvs : ∀ {b}, b ∈ blks vs → b ∈ own := fun hb => by rw [hown0]; exact List.mem_append_left _ hb
  have hLo : ∀ {L b}, L ∈ Ls → bOf (bv βs L) = some b → b ∈ own := fun {L b} hL hb => by rw [hown0]; exact List.mem_append_right _ (List.mem_flatMap.2 ⟨L, hL, by rw [hb]; simp⟩)
  have hLg : ∀ {L b}, L ∈ Ls → bOf (bv βs L) = some b → b ∈ gs := fun {L b} hL hb => by
    obtain ⟨_, _, _, b', q1, q2⟩ := hLs L hL
    rw [q1] at hb; cases hb; exact q2
  have hap : (blks vs).Nodup ∧ ∀ {L b}, L ∈ Ls → bOf (bv βs L) = some b → b ∈ blks vs → False := by
    rw [hown0, List.nodup_append] at hnd
    exact ⟨hnd.1, fun {L b} hL hb hm => hnd.2.2 b hm b (List.mem_flatMap.2 ⟨L, hL, by rw [hb]; simp⟩) rfl⟩
  have hl := h.obs.len
  have hl1 := hd.1
  have hl2 := hrel.1
  have hlb : βs.length = obs2.length := by omega
  have live21 : ∀ {M}, (getOb obs2 M).live = true → getOb obs2 M = getOb obs1 M := fun {M} hm => by
    rcases hrel.2 M with q | ⟨e, l, q1, q2⟩ | ⟨kk, kv, m, q1, q2⟩
    · exact q
    · rw [q2] at hm; cases hm
    · rw [q2] at hm; cases hm
  have live10 : ∀ {M}, (getOb obs1 M).live = true → getOb obs1 M = getOb obs M := fun {M} hm => hd.live (fun e => by rw [e] at hm; cases hm)
  have own21 : ∀ {b}, Own βs obs2 b → Own βs obs1 b := by
    rintro b ⟨M, hM, m1, m2⟩
    exact ⟨M, hM, by rw [← live21 m1]; exact m1, m2⟩
  have own10 : ∀ {b}, Own βs obs1 b → Own βs obs b := fun hb => hd.own hb
  have hown' : ∀ {b}, Own (βs ++ vs) obs' b → Own βs obs2 b ∨ b ∈ own := by
    rintro b ⟨M, hM, m1, m2⟩
    rw [bv_app] at m2
    by_cases q : M < βs.length
    · rw [if_pos q] at m2
      by_cases qL : M ∈ Ls
      · exact .inr (hLo qL m2)
      · rw [hold M (by omega) qL] at m1
        exact .inl ⟨M, q, m1, m2⟩
    · rw [if_neg q] at m2
      right
      rw [List.length_append] at hM
      have hi : M - βs.length < vs.length := by omega
      refine hvs (List.mem_flatMap.2 ⟨vs[M - βs.length], List.getElem_mem hi, ?_⟩)
      have : bv vs (M - βs.length) = vs[M - βs.length] := by
        unfold bv; rw [List.getD_eq_getElem?_getD, List.getElem?_eq_getElem hi]; rfl
      rw [this] at m2
      rw [m2]; simp
  have hgown : ∀ {b}, b ∈ gs → Own βs obs b := fun hb => (hgs _ hb).1
  have hF : ∀ b, Fz B βs obs w b → Fz B (βs ++ vs) obs' w' b ∧ w'.heap[b]? = w.heap[b]? := fun b hb => by
    have h1 := h.notOwn hb
    refine ⟨?_, hblk b h1.1 (fun hg => h1.2 (hgown hg))⟩
    rcases hb with hb | hb
    · exact .inl hb
    · refine .inr ⟨hb.1, Nat.lt_of_lt_of_le hb.2.1 hsz, fun hn => ?_⟩
      rcases hown' hn with q | q
      · exact hb.2.2 (own10 (own21 q))
      · rcases (hvb b q).1 with q1 | q1
        · omega
        · exact hb.2.2 (hgown q1)
  have hFF : ∀ b, F' b → Fz B (βs ++ vs) obs' w' b := fun b hb => by
    rcases hF' b hb with q | q | q
    · exact (hF b q).1
    · have q1 := h.own b (own10 q.1)
      refine .inr ⟨q1.1, Nat.lt_of_lt_of_le q1.2 hsz, fun hn => ?_⟩
      rcases hown' hn with q2 | q2
      · exact q.2 q2
      · rcases (hvb b q2).1 with q3 | q3
        · omega
        · exact (hgs b q3).2 q.1
    · refine .inr ⟨?_, q.2.1, fun hn => ?_⟩
      · rcases q.1 with q1 | q1
        · exact .inl (Nat.le_trans h.base q1)
        · exact (h.own b (hgown q1)).1
      · rcases hown' hn with q2 | q2
        · rcases q.1 with q1 | q1
          · have := (h.own b (own10 (own21 q2))).2; omega
          · exact (hgs b q1).2 (own21 q2)
        · exact q.2.2 q2
  refine ⟨⟨hos, htp, hout, hsz, fun b hb hn => hblk b hb (fun hg => hn (hgown hg)), by simp, fun L hL => by rw [bv_app, if_pos hL], by simp [hlb, hlen, hl'], fun b hb => ?_, fun M M' b hM hM' e1 e2 e3 e4 => ?_, fun M hM hw => ?_, fun M hM => ?_⟩, hFF⟩
  · rcases hown' hb with q | q
    · exact ⟨.inl (own10 (own21 q)), Nat.lt_of_lt_of_le (h.own b (own10 (own21 q))).2 hsz⟩
    · refine ⟨?_, (hvb b q).2⟩
      rcases (hvb b q).1 with q1 | q1
      · exact .inr q1
      · exact .inl (hgown q1)
  · rw [bv_app] at e3 e4
    rw [List.length_append] at hM hM'
    have memv : ∀ {N}, ¬ N < βs.length → N < βs.length + vs.length → bOf (bv vs (N - βs.length)) = some b → b ∈ blks vs := fun {N} h1 h2 h3 => by
      have hi : N - βs.length < vs.length := by omega
      have : bv vs (N - βs.length) = vs[N - βs.length] := by
        unfold bv; rw [List.getD_eq_getElem?_getD, List.getElem?_eq_getElem hi]; rfl
      rw [this] at h3
      exact List.mem_flatMap.2 ⟨_, List.getElem_mem hi, by rw [h3]; simp⟩
    have clash : ∀ {N}, N < βs.length → (getOb obs2 N).live = true → bOf (bv βs N) = some b → b ∈ own → False := fun {N} h1 h2 h3 h4 => by
      have q : Own βs obs2 b := ⟨N, h1, h2, h3⟩
      rcases (hvb b h4).1 with q1 | q1
      · have := (h.own b (own10 (own21 q))).2; omega
      · exact (hgs b q1).2 (own21 q)
    have live2 : ∀ {N}, N < βs.length → N ∉ Ls → (getOb obs' N).live = true → (getOb obs2 N).live = true ∧ (getOb obs N).live = true := fun {N} h1 h2 h3 => by
      rw [hold N (by omega) h2] at h3
      exact ⟨h3, by rw [← live10 (by rw [← live21 h3]; exact h3), ← live21 h3]; exact h3⟩
    by_cases q : M < βs.length <;> by_cases q' : M' < βs.length
    · rw [if_pos q] at e3; rw [if_pos q'] at e4
      by_cases qL : M ∈ Ls <;> by_cases qL' : M' ∈ Ls
      · exact h.inj M M' b q q' (hLs M qL).2.2.1 (hLs M' qL').2.2.1 e3 e4
      · exact (clash q' (live2 q' qL' e2).1 e4 (hLo qL e3)).elim
      · exact (clash q (live2 q qL e1).1 e3 (hLo qL' e4)).elim
      · exact h.inj M M' b q q' (live2 q qL e1).2 (live2 q' qL' e2).2 e3 e4
    · rw [if_pos q] at e3; rw [if_neg q'] at e4
      have hm := memv q' hM' e4
      by_cases qL : M ∈ Ls
      · exact (hap.2 qL e3 hm).elim
      · exact (clash q (live2 q qL e1).1 e3 (hvs hm)).elim
    · rw [if_pos q'] at e4; rw [if_neg q] at e3
      have hm := memv q hM e3
      by_cases qL : M' ∈ Ls
      · exact (hap.2 qL e4 hm).elim
      · exact (clash q' (live2 q' qL e2).1 e4 (hvs hm)).elim
    · rw [if_neg q] at e3; rw [if_neg q'] at e4
      have nd : ∀ (vs : List Value) (i j : Nat), i < vs.length → j < vs.length → (vs.flatMap fun v => (bOf v).toList).Nodup → bOf (bv vs i) = some b → bOf (bv vs j) = some b → i = j := by
        intro vs
        induction vs with
        | nil => intro i j hi; cases hi
        | cons v vs ih =>
          intro i j hi hj hn h1 h2
          rw [List.flatMap_cons, List.nodup_append] at hn
          have far : ∀ {k}, k < vs.length → bOf (bv vs k) = some b → b ∈ (vs.flatMap fun v => (bOf v).toList) := fun {k} hk hb => by
            have : bv vs k = vs[k] := by unfold bv; rw [List.getD_eq_getElem?_getD, List.getElem?_eq_getElem hk]; rfl
            rw [this] at hb
            exact List.mem_flatMap.2 ⟨_, List.getElem_mem hk, by rw [hb]; simp⟩
          cases i with
          | zero =>
            cases j with
            | zero => rfl
            | succ j =>
              have h1 : bOf v = some b := h1
              have h2 : bOf (bv vs j) = some b := h2
              exact (hn.2.2 b (by rw [h1]; simp) b (far (by simpa using hj) h2) rfl).elim
          | succ i =>
            cases j with
            | zero =>
              have h2 : bOf v = some b := h2
              have h1 : bOf (bv vs i) = some b := h1
              exact (hn.2.2 b (by rw [h2]; simp) b (far (by simpa using hi) h1) rfl).elim
            | succ j => rw [ih i j (by simpa using hi) (by simpa using hj) hn.2.1 h1 h2]
      have := nd vs (M - βs.length) (M' - βs.length) (by omega) (by omega) hap.1 e3 e4
      omega
  · have hn : M ∉ Ls := fun q => by rw [(hLs M q).2.1] at hw; cases hw
    rw [hold M (by omega) hn]
    exact hlock M (by omega) hw
  · rw [bv_app]
    by_cases qL : M ∈ Ls
    · rw [if_pos (hLs M qL).1]
      obtain ⟨cs, c1, c2⟩ := hbox M qL
      rw [c1]
      exact c2.mono (fun b hb => ⟨hFF b hb, rfl⟩) (Nat.le_refl _) (fun _ _ => rfl) (fun _ _ _ => rfl)
    by_cases q : M < βs.length
    · rw [if_pos q, hold M (by omega) qL]
      have hr := h.obs.rep M q
      have hbx : ∀ L, L < βs.length → bv (βs ++ vs) L = bv βs L := fun L hL => by rw [bv_app, if_pos hL]
      have hle : βs.length ≤ (βs ++ vs).length := by simp
      have own1 : (getOb obs1 M).live = true → ∀ b, bOf (bv βs M) = some b → w'.heap[b]? = w.heap[b]? := fun hlv b hb => by
        have q1 : Own βs obs1 b := ⟨M, q, hlv, hb⟩
        exact hblk b (h.own b (own10 q1)).2 (fun hg => (hgs b hg).2 q1)
      rcases hrel.2 M with q1 | ⟨e, l, q1, q2⟩ | ⟨kk, kv, m, q1, q2⟩
      · rw [q1]
        rcases hd.2 M with q3 | q3
        · rw [q3]
          exact hr.mono hF hle hbx (fun b hlv hb => own1 (by rw [q3]; exact hlv) b hb)
        · rw [q3]; trivial
      · rw [q2]
        have q3 : getOb obs M = .arr e l := by rw [← live10 (by rw [q1]; rfl), q1]
        rw [q3] at hr
        have hr' := hr.mono (βs' := βs ++ vs) hF hle hbx (fun b _ hb => own1 (by rw [q1]; rfl) b hb)
        refine arr_reads hr' (fun b hb => hb) (fun b hb => ?_)
        have q4 : Own βs obs1 b := ⟨M, q, by rw [q1]; rfl, hb⟩
        have q5 := h.own b (own10 q4)
        refine .inr ⟨q5.1, Nat.lt_of_lt_of_le q5.2 hsz, fun hn => ?_⟩
        rcases hown' hn with q6 | q6
        · obtain ⟨N, hN, n1, n2⟩ := q6
          have l1 : (getOb obs N).live = true := by rw [← live10 (by rw [← live21 n1]; exact n1), ← live21 n1]; exact n1
          have := h.inj M N b q hN (by rw [q3]; rfl) l1 hb n2
          subst this
          rw [q2] at n1; cases n1
        · rcases (hvb b q6).1 with q7 | q7
          · omega
          · exact (hgs b q7).2 q4
      · rw [q2]
        have q3 : getOb obs M = .map kk kv m := by rw [← live10 (by rw [q1]; rfl), q1]
        rw [q3] at hr
        have hr' := hr.mono (βs' := βs ++ vs) hF hle hbx (fun b _ hb => own1 (by rw [q1]; rfl) b hb)
        refine map_reads hr' (fun b hb => hb) (fun b hb => ?_)
        have q4 : Own βs obs1 b := ⟨M, q, by rw [q1]; rfl, hb⟩
        have q5 := h.own b (own10 q4)
        refine .inr ⟨q5.1, Nat.lt_of_lt_of_le q5.2 hsz, fun hn => ?_⟩
        rcases hown' hn with q6 | q6
        · obtain ⟨N, hN, n1, n2⟩ := q6
          have l1 : (getOb obs N).live = true := by rw [← live10 (by rw [← live21 n1]; exact n1), ← live21 n1]; exact n1
          have := h.inj M N b q hN (by rw [q3]; rfl) l1 hb n2
          subst this
          rw [q2] at n1; cases n1
        · rcases (hvb b q6).1 with q7 | q7
          · omega
          · exact (hgs b q7).2 q4
    · rw [if_neg q]
      rw [List.length_append] at hM
      have hi : M - βs.length < vs.length := by omega
      obtain ⟨n1, n2⟩ := hnew (M - βs.length) (by omega) hi
      have g1 : getOb obs' M = news[M - βs.length] := by
        have := hnw (M - βs.length) (by omega)
        rw [← hlb, show βs.length + (M - βs.length) = M by omega] at this
        rw [this]
        unfold getOb; rw [List.getD_eq_getElem?_getD, List.getElem?_eq_getElem (by omega)]; rfl
      have g2 : bv vs (M - βs.length) = vs[M - βs.length] := by
        unfold bv; rw [List.getD_eq_getElem?_getD, List.getElem?_eq_getElem hi]; rfl
      rw [g1, g2]
      exact n2.mono (fun b hb => ⟨hFF b hb, rfl⟩) (Nat.zero_le _) (fun _ q => by cases q) (fun _ _ _ => rfl)

end Go.Proofs.YtocgdpnealaoeaaDoor.Ev
