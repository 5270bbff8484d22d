/- The small evaluator's rule for calls is right (this session's own). No condition. -/
import Derived.Test.YtocgdpnealaoeaaDoorEvF
namespace Go.Proofs.YtocgdpnealaoeaaDoor.Ev
open Go.RowKit
set_option linter.unusedVariables false
set_option linter.unusedSimpArgs false

variable {P : Program} {J : Inv} {Γ : Ctx} {B : Base} {C : LBase} {βs : List Value} {st : St} {a : Act} {w : World} {obs obs' : List Ob} {wr : Nat → Bool} {tv : TV}
variable (hΓ : CtxOK P J Γ) (h : Rep' P J B βs obs w)

/-- slots and the values in them -/

def Drops (obs obs1 : List Ob) : Prop := obs1.length = obs.length ∧ ∀ M, getOb obs1 M = getOb obs M ∨ getOb obs1 M = .dead
theorem Drops.own {obs1 : List Ob} (h : Drops obs obs1) {b : Nat} (hb : Own βs obs1 b) : Own βs obs b := by
  obtain ⟨M, hM, h1, h2⟩ := hb
  rcases h.2 M with h3 | h3
  · rw [h3] at h1; exact ⟨M, hM, h1, h2⟩
  · rw [h3] at h1; cases h1

theorem moved_ok (h0 : Rep' P J B βs obs w) : ∀ {ps : List Pm} {tvs : List TV} {vals : List Value} {obs1 obs2 : List Ob}, Drops obs obs1 → (∀ b, Own βs obs1 b → Own βs obs b) → moved wr ps tvs obs1 = some obs2 → TVs P J B βs obs w tvs vals →
    (∀ M, M < obs.length → wr M = false → getOb obs1 M = getOb obs M) →
    Drops obs obs2 ∧ (∀ M, M < obs.length → wr M = false → getOb obs2 M = getOb obs M) ∧ (ownBs ps vals).Nodup ∧ (∀ b ∈ ownBs ps vals, Own βs obs1 b ∧ ¬ Own βs obs2 b) ∧ (∀ b, Own βs obs2 b → Own βs obs1 b) ∧ Drops obs1 obs2
  | [], [], vals, obs1, obs2, hd, ho, hm, ht, hw => by
    cases hm
    exact ⟨hd, hw, by simp [ownBs], by simp [ownBs], fun _ h => h, rfl, fun _ => .inl rfl⟩
  | .own e :: ps, tv :: tvs, vals, obs1, obs2, hd, ho, hm, ht, hw => by
    obtain ⟨v, r, rfl, hv, hr⟩ := ht
    simp only [moved] at hm
    split at hm
    · rename_i L
      split at hm
      · rename_i e' l hob hwr
        have hL : L < obs1.length := getOb_lt hob rfl
        have hLb : L < βs.length := by rw [h0.obs.len, ← hd.1]; exact hL
        have hd' : Drops obs (obs1.set L .dead) := ⟨by simpa using hd.1, fun M => by
          rw [getOb_set hL]
          by_cases q : L = M
          · rw [if_pos q]; exact .inr rfl
          · rw [if_neg q]; exact hd.2 M⟩
        have hdd : Drops obs1 (obs1.set L .dead) := ⟨by simp, fun M => by
          rw [getOb_set hL]
          by_cases q : L = M
          · rw [if_pos q]; exact .inr rfl
          · rw [if_neg q]; exact .inl rfl⟩
        obtain ⟨g1, g2, g3, g4, g5, g6⟩ := moved_ok h0 hd' (fun b hb => ho b (hdd.own hb)) hm hr (fun M hM hwM => by
          rw [getOb_set hL, if_neg]
          · exact hw M hM hwM
          · rintro rfl; rw [hwr] at hwM; cases hwM)
        have hvb : v = bv βs L := hv.2
        have hobs : getOb obs L = .arr e' l := by
          rcases hd.2 L with q | q
          · rw [← q]; exact hob
          · rw [q] at hob; cases hob
        have hno : ∀ b, bOf v = some b → Own βs obs1 b ∧ ¬ Own βs (obs1.set L .dead) b := fun b hb => by
          refine ⟨⟨L, hLb, by rw [hob]; rfl, by rw [← hvb]; exact hb⟩, ?_⟩
          rintro ⟨M, hM, q1, q2⟩
          rw [getOb_set hL] at q1
          by_cases q : L = M
          · rw [if_pos q] at q1; cases q1
          · rw [if_neg q] at q1
            have q3 : (getOb obs M).live = true := by
              rcases hd.2 M with q' | q'
              · rw [← q']; exact q1
              · rw [q'] at q1; cases q1
            exact q (h0.inj L M b hLb hM (by rw [hobs]; rfl) q3 (by rw [← hvb]; exact hb) q2)
        refine ⟨g1, g2, ?_, ?_, fun b hb => hdd.own (g5 b hb), ⟨g6.1.trans hdd.1, fun M => ?_⟩⟩
        · show ((bOf v).toList ++ ownBs ps r).Nodup
          cases hbv : bOf v with
          | none => simpa using g3
          | some b =>
            simp only [Option.toList_some, List.singleton_append, List.nodup_cons]
            exact ⟨fun hb => (hno b hbv).2 (g4 b hb).1, g3⟩
        · intro b hb
          rcases List.mem_append.1 (show b ∈ (bOf v).toList ++ ownBs ps r from hb) with hb | hb
          · have := hno b (by simpa using hb)
            exact ⟨this.1, fun q => this.2 (g5 b q)⟩
          · exact ⟨hdd.own (g4 b hb).1, (g4 b hb).2⟩
        · rcases g6.2 M with q | q
          · rw [q]; exact hdd.2 M
          · exact .inr q
      · cases hm
    · have := moved_ok h0 hd ho hm hr hw
      have hvn : v = .slice none 0 0 := hv
      subst hvn
      simpa [ownBs, bOf] using this
    · have := moved_ok h0 hd ho hm hr hw
      have hvn : v = .slice none 0 0 := hv
      subst hvn
      simpa [ownBs, bOf] using this
    · cases hm
  | .val k :: ps, tv :: tvs, vals, obs1, obs2, hd, ho, hm, ht, hw => by
    obtain ⟨v, r, rfl, hv, hr⟩ := ht
    have hm : moved wr ps tvs obs1 = some obs2 := hm
    exact moved_ok (ps := ps) (tvs := tvs) (vals := r) h0 hd ho hm hr hw
  | .rptr k :: ps, tv :: tvs, vals, obs1, obs2, hd, ho, hm, ht, hw => by
    obtain ⟨v, r, rfl, hv, hr⟩ := ht
    have hm : moved wr ps tvs obs1 = some obs2 := hm
    exact moved_ok (ps := ps) (tvs := tvs) (vals := r) h0 hd ho hm hr hw
  | .fnv _ _ :: ps, tv :: tvs, vals, obs1, obs2, hd, ho, hm, ht, hw => by
    obtain ⟨v, r, rfl, hv, hr⟩ := ht
    have hm : moved wr ps tvs obs1 = some obs2 := hm
    exact moved_ok (ps := ps) (tvs := tvs) (vals := r) h0 hd ho hm hr hw
  | .nil _ :: ps, tv :: tvs, vals, obs1, obs2, hd, ho, hm, ht, hw => by
    obtain ⟨v, r, rfl, hv, hr⟩ := ht
    have hm : moved wr ps tvs obs1 = some obs2 := hm
    exact moved_ok (ps := ps) (tvs := tvs) (vals := r) h0 hd ho hm hr hw
  | [], _ :: _, _, _, _, _, _, hm, _, _ => by simp [moved] at hm
  | .nil _ :: _, [], _, _, _, _, _, hm, _, _ => by simp [moved] at hm
  | .own _ :: _, [], _, _, _, _, _, hm, _, _ => by simp [moved] at hm
  | .val _ :: _, [], _, _, _, _, _, hm, _, _ => by simp [moved] at hm
  | .rptr _ :: _, [], _, _, _, _, _, hm, _, _ => by simp [moved] at hm
  | .fnv _ _ :: _, [], _, _, _, _, _, hm, _, _ => by simp [moved] at hm

/-- what is lent: only freezing -/
theorem lent_rel : ∀ {ps : List Pm} {tvs : List TV} {obs1 obs2 : List Ob}, lent wr ps tvs obs1 = some obs2 → FrzRel obs1 obs2 ∧ (∀ M, wr M = false → getOb obs2 M = getOb obs1 M) := by
  have f1 : ∀ {tv : TV} {o1 o2 : List Ob}, frz1 wr tv o1 = some o2 → ∀ M, wr M = false → getOb o2 M = getOb o1 M := by
    intro tv o1 o2 hf M hM
    cases tv with
    | arr L =>
      simp only [frz1] at hf
      split at hf
      · rename_i e l ho
        split at hf
        · rename_i hw
          cases hf
          rw [getOb_set (getOb_lt ho rfl), if_neg]
          rintro rfl; rw [hw] at hM; cases hM
        · cases hf
      · cases hf; rfl
    | map L =>
      simp only [frz1] at hf
      split at hf
      · rename_i kk kv m ho
        split at hf
        · rename_i hw
          cases hf
          rw [getOb_set (getOb_lt ho rfl), if_neg]
          rintro rfl; rw [hw] at hM; cases hM
        · cases hf
      · cases hf; rfl
    | _ => simp only [frz1] at hf; cases hf; rfl
  have fA : ∀ {l : List TV} {o1 o2 : List Ob}, frzAll wr l o1 = some o2 → ∀ M, wr M = false → getOb o2 M = getOb o1 M := by
    intro l
    induction l with
    | nil => intro o1 o2 hf M _; cases hf; rfl
    | cons c cs ih =>
      intro o1 o2 hf M hM
      simp only [frzAll] at hf
      split at hf
      · rename_i o ho
        rw [ih hf M hM, f1 ho M hM]
      · cases hf
  intro ps
  induction ps with
  | nil => intro tvs obs1 obs2 hf; simp only [lent] at hf; cases hf; exact ⟨FrzRel.refl _, fun _ _ => rfl⟩
  | cons p ps ih =>
    intro tvs obs1 obs2 hf
    cases tvs with
    | nil => cases p <;> simp only [lent] at hf <;> cases hf <;> exact ⟨FrzRel.refl _, fun _ _ => rfl⟩
    | cons tv tvs =>
      cases p with
      | val k =>
        simp only [lent] at hf
        split at hf
        · rename_i o ho
          obtain ⟨g1, g2⟩ := ih hf
          exact ⟨(frz1_rel ho).1.trans g1, fun M hM => (g2 M hM).trans (f1 ho M hM)⟩
        · cases hf
      | rptr k =>
        cases tv with
        | ptr L off =>
          simp only [lent] at hf
          split at hf
          · split at hf
            · rename_i o ho
              obtain ⟨g1, g2⟩ := ih hf
              exact ⟨(frzAll_rel ho).1.trans g1, fun M hM => (g2 M hM).trans (fA ho M hM)⟩
            · cases hf
          · cases hf
        | _ => simp only [lent] at hf; exact ih hf
      | own e => simp only [lent] at hf; exact ih hf
      | fnv a r => simp only [lent] at hf; exact ih hf
      | nil e => simp only [lent] at hf; exact ih hf

end Go.Proofs.YtocgdpnealaoeaaDoor.Ev
