/- The small evaluator's rules for writing are right (this session's own). No condition. -/
import Derived.Test.YtbliiipcjbmbiaaGreatDoorEvN
namespace Go.Proofs.YtbliiipcjbmbiaaGreatDoor.Ev
open Go.RowKit
set_option linter.unusedVariables false
set_option linter.unusedSimpArgs false

variable {P : Program} {J : Inv} {Γ : Ctx} {B : Base} {C : LBase} {βs : List Value} {st : St} {a : Act} {w : World} {obs obs' : List Ob} {wr : Nat → Bool} {tv : TV}
variable (hΓ : CtxOK P J Γ) (h : Rep' P J B βs obs w)

/-- an own object is written -/
theorem Rep'.write (h : Rep' P J B βs obs w) {L : Nat} {o : Ob} {w' : World} (hL : L < obs.length) (hl : (getOb obs L).live = true) (hw : wr L = true) (ho : o.live = true)
    (hos : w'.os = w.os) (htp : w'.tape = w.tape) (hout : w'.output = w.output) (hsz : w'.heap.size = w.heap.size) (hblk : ∀ k, bOf (bv βs L) ≠ some k → w'.heap[k]? = w.heap[k]?)
    (hrep : (∀ b, Fz B βs obs w b → Fz B βs (obs.set L o) w' b ∧ w'.heap[b]? = w.heap[b]?) → ObRep w' (Fz B βs (obs.set L o) w') βs (bv βs L) o) : Step B βs obs wr w βs (obs.set L o) w' := by
  have hlen := h.obs.len
  have hLb : L < βs.length := by rw [hlen]; exact hL
  have hown : ∀ b, Own βs (obs.set L o) b ↔ Own βs obs b := fun b => by
    constructor
    · rintro ⟨M, hM, h1, h2⟩
      rw [getOb_set hL] at h1
      by_cases e : L = M
      · subst e; exact ⟨L, hM, hl, h2⟩
      · rw [if_neg e] at h1; exact ⟨M, hM, h1, h2⟩
    · rintro ⟨M, hM, h1, h2⟩
      refine ⟨M, hM, ?_, h2⟩
      rw [getOb_set hL]
      by_cases e : L = M
      · rw [if_pos e]; exact ho
      · rw [if_neg e]; exact h1
  have hne : ∀ b, ¬ Own βs obs b → bOf (bv βs L) ≠ some b := fun b hb e => hb ⟨L, hLb, hl, e⟩
  have hF : ∀ b, Fz B βs obs w b → Fz B βs (obs.set L o) w' b ∧ w'.heap[b]? = w.heap[b]? := fun b hb => by
    have h1 := h.notOwn hb
    refine ⟨?_, hblk b (hne b h1.2)⟩
    rcases hb with hb | hb
    · exact .inl hb
    · exact .inr ⟨hb.1, by rw [hsz]; exact hb.2.1, fun hn => hb.2.2 ((hown b).1 hn)⟩
  refine ⟨hos, htp, hout, Nat.le_of_eq hsz.symm, fun b _ hb => hblk b (hne b hb), Nat.le_refl _, fun _ _ => rfl, by simpa using hlen, fun b hb => ⟨.inl ((hown b).1 hb), by rw [hsz]; exact (h.own b ((hown b).1 hb)).2⟩, fun M M' b hM hM' e1 e2 e3 e4 => ?_, fun M hM hwM => ?_, fun M hM => ?_⟩
  · have q : ∀ {M}, (getOb (obs.set L o) M).live = true → (getOb obs M).live = true := fun {M} e1 => by
      rw [getOb_set hL] at e1
      by_cases e : L = M
      · subst e; exact hl
      · rw [if_neg e] at e1; exact e1
    exact h.inj M M' b hM hM' (q e1) (q e2) e3 e4
  · rw [getOb_set hL, if_neg]
    rintro rfl
    rw [hw] at hwM; cases hwM
  · rw [getOb_set hL]
    by_cases e : L = M
    · subst e; rw [if_pos rfl]; exact hrep hF
    · rw [if_neg e]
      refine (h.obs.rep M hM).mono hF (Nat.le_refl _) (fun _ _ => rfl) (fun b q1 q2 => hblk b fun q3 => ?_)
      exact e (h.inj L M b hLb hM hl q1 q3 q2)

/-- what an operation without a value gives -/
def GivesU (P : Program) (J : Inv) (B : Base) (βs : List Value) (obs : List Ob) (wr : Nat → Bool) (w : World) (s : Sem Unit) (tv : TV) (obs' : List Ob) : Prop :=
  ∃ βs' w', s.run P w = .ok () w' ∧ Step B βs obs wr w βs' obs' w' ∧ tv = .skipped

theorem spliceAt_length {α : Type} (l m : List α) (o : Nat) (h : o + m.length ≤ l.length) : (spliceAt l o m).length = l.length := by
  unfold spliceAt
  simp only [List.length_append, List.length_take, List.length_drop]; omega
theorem spliceAt_get {α : Type} (l m : List α) (o i : Nat) (h : o + m.length ≤ l.length) : (spliceAt l o m)[i]? = if o ≤ i ∧ i < o + m.length then m[i - o]? else l[i]? := by
  unfold spliceAt
  rw [List.append_assoc, List.getElem?_append, List.length_take, Nat.min_eq_left (by omega)]
  by_cases h1 : i < o
  · rw [if_pos h1, if_neg (by omega), List.getElem?_take, if_pos h1]
  · rw [if_neg h1, List.getElem?_append]
    by_cases h2 : i - o < m.length
    · rw [if_pos h2, if_pos (by omega)]
    · rw [if_neg h2, if_neg (by omega), List.getElem?_drop]
      congr 1; omega

theorem upd_rd {F : Nat → Prop} : ∀ {k : Kd} {off : Nat} {p : Kd} {f : k.T → p.T → k.T} {vs us : List Value} {x : k.T} {y : p.T}, Kd.upd k off p = some f → Rd w F k vs x → Rd w F p us y →
    off + p.sz ≤ k.sz ∧ Rd w F k (spliceAt vs off us) (f x y) := by
  have whole : ∀ {k p : Kd} {off : Nat} {f : k.T → p.T → k.T} {vs us : List Value} {x : k.T} {y : p.T}, Kd.wholeU k off p = some f → Rd w F k vs x → Rd w F p us y → off + p.sz ≤ k.sz ∧ Rd w F k (spliceAt vs off us) (f x y) := by
    intro k p off f vs us x y hf hx hy
    unfold Kd.wholeU at hf
    split at hf
    · rename_i h0
      subst h0
      split at hf
      · rename_i e _
        cases hf
        subst e
        refine ⟨by rw [Nat.zero_add]; exact Nat.le_refl _, ?_⟩
        have e1 := Rd.length hx
        have e2 := Rd.length hy
        have : spliceAt vs 0 us = us := by
          unfold spliceAt
          rw [List.take_zero, List.nil_append, List.drop_eq_nil_of_le (by omega), List.append_nil]
        rw [this]; exact hy
      · cases hf
    · cases hf
  intro k
  induction k with
  | pair a b iha ihb =>
    intro off p f vs us x y hf hx hy
    rw [Kd.upd] at hf
    split at hf
    · rename_i g hg; cases hf; exact whole hg hx hy
    · obtain ⟨va, vb, rfl, ha, hb⟩ := hx
      have la := Rd.length ha
      have lb := Rd.length hb
      have lu := Rd.length hy
      split at hf
      · rename_i hlt
        split at hf
        · rename_i g hg
          cases hf
          obtain ⟨h1, h2⟩ := iha hg ha hy
          refine ⟨by simp only [Kd.sz]; omega, spliceAt va off us, vb, ?_, h2, hb⟩
          apply List.ext_getElem?
          intro i
          rw [spliceAt_get _ _ _ _ (by rw [List.length_append]; omega), List.getElem?_append, List.getElem?_append, spliceAt_length _ _ _ (by omega), spliceAt_get _ _ _ _ (by omega)]
          by_cases q : i < va.length
          · rw [if_pos q, if_pos q]
          · rw [if_neg q, if_neg q, if_neg (by omega)]
        · cases hf
      · rename_i hlt
        split at hf
        · rename_i g hg
          cases hf
          obtain ⟨h1, h2⟩ := ihb hg hb hy
          refine ⟨by simp only [Kd.sz]; omega, va, spliceAt vb (off - a.sz) us, ?_, ha, h2⟩
          apply List.ext_getElem?
          intro i
          rw [spliceAt_get _ _ _ _ (by rw [List.length_append]; omega), List.getElem?_append, List.getElem?_append, spliceAt_get _ _ _ _ (by omega)]
          by_cases q : i < va.length
          · rw [if_pos q, if_pos q, if_neg (by omega)]
          · rw [if_neg q, if_neg q]
            by_cases q2 : off ≤ i ∧ i < off + us.length
            · rw [if_pos q2, if_pos (by omega)]; congr 1; omega
            · rw [if_neg q2, if_neg (by omega)]
        · cases hf
  | agg c ih =>
    intro off p f vs us x y hf hx hy
    rw [Kd.upd] at hf
    split at hf
    · rename_i g hg; cases hf; exact whole hg hx hy
    · exact ih hf hx hy
  | _ =>
    intro off p f vs us x y hf hx hy
    simp only [Kd.upd] at hf
    exact whole hf hx hy

theorem updS_rd {F : Nat → Prop} : ∀ {k : Kd} {off : Nat} {p : Kd} {g : Kd.Up k}, Kd.updS k off p = some g → Kd.sim g.p p = true ∧ ∀ {vs us : List Value} {x : k.T} {y : g.p.T}, Rd w F k vs x → Rd w F g.p us y →
    off + g.p.sz ≤ k.sz ∧ Rd w F k (spliceAt vs off us) (g.f x y) := by
  have whole : ∀ {k : Kd} {off : Nat} {p : Kd} {g : Kd.Up k}, (Nat.beq off 0 && Kd.sim k p) = true → some (⟨k, fun _ y => y⟩ : Kd.Up k) = some g → Kd.sim g.p p = true ∧ ∀ {vs us : List Value} {x : k.T} {y : g.p.T}, Rd w F k vs x → Rd w F g.p us y →
      off + g.p.sz ≤ k.sz ∧ Rd w F k (spliceAt vs off us) (g.f x y) := by
    intro k off p g hc hg
    rw [Bool.and_eq_true] at hc
    have h0 : off = 0 := Nat.eq_of_beq_eq_true hc.1
    subst h0
    cases hg
    refine ⟨hc.2, fun {vs us x y} hx hy => ⟨by rw [Nat.zero_add]; exact Nat.le_refl _, ?_⟩⟩
    have e1 := Rd.length hx
    have e2 := Rd.length hy
    have : spliceAt vs 0 us = us := by
      unfold spliceAt
      rw [List.take_zero, List.nil_append, List.drop_eq_nil_of_le (by dsimp only at e2; omega), List.append_nil]
    show Rd w F k (spliceAt vs 0 us) y
    rw [this]; exact hy
  intro k
  induction k with
  | pair a b iha ihb =>
    intro off p g hg
    rw [Kd.updS] at hg
    split at hg
    · rename_i hc; exact whole hc hg
    · split at hg
      · rename_i hlt
        have hlt : off < a.sz := by simpa [Nat.blt_eq] using hlt
        split at hg
        · rename_i f hf
          cases hg
          obtain ⟨i1, i2⟩ := iha hf
          refine ⟨i1, fun {vs us x y} hx hy => ?_⟩
          obtain ⟨va, vb, rfl, ha, hb⟩ := hx
          have la := Rd.length ha
          have lb := Rd.length hb
          have lu : us.length = f.p.sz := Rd.length hy
          obtain ⟨h1, h2⟩ := i2 ha hy
          refine ⟨by show off + f.p.sz ≤ (Kd.pair a b).sz; simp only [Kd.sz]; omega, spliceAt va off us, vb, ?_, h2, hb⟩
          apply List.ext_getElem?
          intro i
          rw [spliceAt_get _ _ _ _ (by rw [List.length_append]; omega), List.getElem?_append, List.getElem?_append, spliceAt_length _ _ _ (by omega), spliceAt_get _ _ _ _ (by omega)]
          by_cases q : i < va.length
          · rw [if_pos q, if_pos q]
          · rw [if_neg q, if_neg q, if_neg (by omega)]
        · cases hg
      · rename_i hlt
        have hlt : ¬ off < a.sz := by
          intro q
          rw [show Nat.blt off a.sz = true by simpa [Nat.blt_eq] using q] at hlt
          cases hlt
        split at hg
        · rename_i f hf
          cases hg
          obtain ⟨i1, i2⟩ := ihb hf
          refine ⟨i1, fun {vs us x y} hx hy => ?_⟩
          obtain ⟨va, vb, rfl, ha, hb⟩ := hx
          have la := Rd.length ha
          have lb := Rd.length hb
          have lu : us.length = f.p.sz := Rd.length hy
          obtain ⟨h1, h2⟩ := i2 hb hy
          refine ⟨by show off + f.p.sz ≤ (Kd.pair a b).sz; simp only [Kd.sz]; omega, va, spliceAt vb (off - a.sz) us, ?_, ha, h2⟩
          apply List.ext_getElem?
          intro i
          rw [spliceAt_get _ _ _ _ (by rw [List.length_append]; omega), List.getElem?_append, List.getElem?_append, spliceAt_get _ _ _ _ (by omega)]
          by_cases q : i < va.length
          · rw [if_pos q, if_pos q, if_neg (by omega)]
          · rw [if_neg q, if_neg q]
            by_cases q2 : off ≤ i ∧ i < off + us.length
            · rw [if_pos q2, if_pos (by omega)]; congr 1; omega
            · rw [if_neg q2, if_neg (by omega)]
        · cases hg
  | agg c ih =>
    intro off p g hg
    rw [Kd.updS] at hg
    split at hg
    · rename_i hc; exact whole hc hg
    · split at hg
      · rename_i f hf
        cases hg
        obtain ⟨i1, i2⟩ := ih hf
        exact ⟨i1, fun {vs us x y} hx hy => i2 (show Rd w F c vs x from hx) hy⟩
      · cases hg
  | _ =>
    intro off p g hg
    simp only [Kd.updS] at hg
    split at hg
    · rename_i hc; exact whole hc hg
    · cases hg

include hΓ h in
theorem evStore_ok {t : Nat} {x y : TV} {v u : Value} (hx : TR P J B βs obs w x v) (hy : TR P J B βs obs w y u) (he : (evStore Γ wr t x y obs).To (tv, obs')) : GivesU P J B βs obs wr w (Instr.storeAt t v u) tv obs' := by
  unfold evStore at he
  split at he
  · rename_i L off
    obtain ⟨hL, b, hbv, rfl⟩ := hx
    have hob := h.obs.rep L hL
    split at he
    · exact (Res.to_fail he).elim
    · rename_i hw
      split at he
      · rename_i cs ho
        rw [ho] at hob
        obtain ⟨b', c, ty, fr, q1, q2, q3, q4, q5⟩ := hob
        rw [hbv] at q1
        cases q1
        split at he
        · rename_i m obs1 hb
          obtain ⟨rfl, k, hk, hE, vs, h1, h2, h3, h4⟩ := boxOf_rep hΓ h hy hb
          split at he
          · rename_i hfit
            obtain ⟨rfl, rfl⟩ := Res.to_nowV he
            have hlo := getOb_lt ho rfl
            have hm := h4.1
            have hrun := run_storeVar (w := w) (b := b) (o := off) (v := u) hE q2 q3 (by omega) (by rw [← Array.length_toList, h1]; exact h2) (by rw [h1]; exact h3)
            rw [h1] at hrun
            refine ⟨βs, _, hrun, h.write hlo (by rw [ho]; rfl) hw rfl (setCells_rest b vs off w).1 (setCells_rest b vs off w).2.1 (setCells_rest b vs off w).2.2 (setCells_size b vs off w) (fun k hk => heap_setCells_other b vs off w k (fun e => hk (by rw [hbv, e]; rfl))) (fun hF => ⟨b, putCells c off vs, ty, fr, hbv, heap_setCells_same b vs off w c ty fr q2, by rw [putCells_size]; exact q3, by rw [putCells_size, spliceAt_length _ _ _ hfit]; exact q4, fun i hi => ?_⟩), rfl⟩
            rw [spliceAt_length _ _ _ hfit] at hi
            have g1 := putCells_get vs c off i (by omega)
            have g2 := spliceAt_get cs m off i hfit
            by_cases q : off ≤ i ∧ i < off + vs.length
            · rw [if_pos q] at g1
              rw [if_pos (by omega)] at g2
              have e1 : (spliceAt cs off m)[i]'(by rw [spliceAt_length _ _ _ hfit]; exact hi) = m[i - off]'(by omega) := by
                rw [List.getElem?_eq_getElem (by rw [spliceAt_length _ _ _ hfit]; exact hi), List.getElem?_eq_getElem (show i - off < m.length by omega)] at g2
                exact Option.some.inj g2
              have e2 : (putCells c off vs).getD i undef = vs[i - off]'(by omega) := by
                rw [Array.getD_eq_getD_getElem?, g1, List.getElem?_eq_getElem (show i - off < vs.length by omega)]; rfl
              rw [e1, e2]
              have := h4.2 (i - off) (by omega) (by omega)
              exact ⟨this.1, this.2.mono hF (Nat.le_refl _) (fun _ _ => rfl)⟩
            · rw [if_neg q] at g1
              rw [if_neg (by omega)] at g2
              have e1 : (spliceAt cs off m)[i]'(by rw [spliceAt_length _ _ _ hfit]; exact hi) = cs[i]'hi := by
                rw [List.getElem?_eq_getElem (by rw [spliceAt_length _ _ _ hfit]; exact hi), List.getElem?_eq_getElem hi] at g2
                exact Option.some.inj g2
              have e2 : (putCells c off vs).getD i undef = c.getD i undef := by
                rw [Array.getD_eq_getD_getElem?, g1, ← Array.getD_eq_getD_getElem?]
              rw [e1, e2]
              have := q5 i hi
              exact ⟨this.1, this.2.mono hF (Nat.le_refl _) (fun _ _ => rfl)⟩
          · exact (Res.to_fail he).elim
        · exact (Res.to_fail he).elim
      · exact (Res.to_fail he).elim
  · rename_i e L i off
    obtain ⟨hL, b, o, n, cap, hbv, hi0, hin, rfl⟩ := hx
    split at he
    · exact (Res.to_fail he).elim
    · rename_i hw
      split at he
      · rename_i k hk
        have hE := hΓ.kind hk
        split at he
        · exact (Res.to_fail he).elim
        rename_i g hg
        obtain ⟨g0, g1⟩ := updS_rd (w := w) (F := Fz B βs obs w) hg
        have hE := hE.sim g0
        split at he
        · rename_i y' obs1 hy' hf
          have hs := frz1_step h hf
          obtain ⟨hrel, hst⟩ := frz1_rel hf
          have h1 := hs.rep' h
          obtain ⟨hyv, _⟩ := toVal_behind h hs hrel hst hy hy'
          have hob := h1.obs.rep L hL
          split at he
          · rename_i e' l ho
            split at he
            · rename_i l' hc
              obtain ⟨rfl, rfl⟩ := Res.to_nowV he
              obtain ⟨rfl, hll⟩ := cast_slice hc
              obtain rfl : l = l' := hll
              rw [ho] at hob
              rcases hob with ⟨q, _⟩ | ⟨b', off', cap', c, tt, fr, q1, q2, q3, q4, q5, q6⟩
              · rw [hbv] at q; cases q
              · rw [hbv] at q1
                cases q1
                have hlt : i.toNat < l.length := by omega
                obtain ⟨cs, c1, c2, c3⟩ := q6 i.toNat hlt
                have hgt : gt e'.dflt l i = l[i.toNat] := by unfold gt; simp [hlt]
                obtain ⟨hkv, us, u1, u2⟩ := hyv
                have hu1 := valCells_cells u1 (Rd.one u2)
                have hul := Rd.length u2
                obtain ⟨p1, p2⟩ := (updS_rd hg).2 c3 u2
                have hcap : l.length * e'.sz ≤ cap * e'.sz := Nat.mul_le_mul_right _ q5
                have hisz : i.toNat * e'.sz + e'.sz ≤ l.length * e'.sz := by
                  have : (i.toNat + 1) * e'.sz ≤ l.length * e'.sz := Nat.mul_le_mul_right _ hlt
                  rw [Nat.add_mul] at this; omega
                have hrun := run_storeVar (w := w) (b := b) (o := o + i.toNat * e'.sz + off) (v := u) hE q2 q3.low (by omega) (by rw [← Array.length_toList, hu1]; exact hul) (by rw [hu1]; exact Rd.one u2)
                rw [hu1] at hrun
                have hlo := getOb_lt ho rfl
                refine ⟨βs, _, hrun, hs.trans (h1.write hlo (by rw [ho]; rfl) hw rfl (setCells_rest b us _ w).1 (setCells_rest b us _ w).2.1 (setCells_rest b us _ w).2.2 (setCells_size b us _ w) (fun k hk => heap_setCells_other b us _ w k (fun e => hk (by rw [hbv, e]; rfl)))
                  (fun hF => .inr ⟨b, o, cap, putCells c _ us, tt, fr, by rw [hbv]; simp [setAt], heap_setCells_same b us _ w c tt fr q2, by rw [putCells_size]; exact q3, by rw [putCells_size]; exact q4, by simpa [setAt] using q5, fun j hj => ?_⟩)), rfl⟩
                have hj' : j < l.length := by simpa [setAt] using hj
                by_cases hij : i.toNat = j
                · subst hij
                  refine ⟨spliceAt cs off us, by rw [spliceAt_length _ _ _ (by omega)]; exact c1, fun m hm => ?_, ?_⟩
                  · rw [putCells_get us c _ _ (by omega), spliceAt_get _ _ _ _ (by omega)]
                    by_cases q : off ≤ m ∧ m < off + us.length
                    · rw [if_pos q, if_pos (by omega)]; congr 1; omega
                    · rw [if_neg q, if_neg (by omega)]; exact c2 m hm
                  · have : (setAt l i (g.f (gt e'.dflt l i) y'))[i.toNat] = g.f l[i.toNat] y' := by simp [setAt, hgt]
                    rw [this]; exact Rd.mono hF p2
                · obtain ⟨ds, d1, d2, d3⟩ := q6 j hj'
                  refine ⟨ds, d1, fun m hm => ?_, ?_⟩
                  · have hjm : j * e'.sz + m < i.toNat * e'.sz ∨ (i.toNat + 1) * e'.sz ≤ j * e'.sz + m := by
                      rcases Nat.lt_or_gt_of_ne hij with hlt' | hgt'
                      · right
                        have : (i.toNat + 1) * e'.sz ≤ j * e'.sz := Nat.mul_le_mul_right _ hlt'
                        omega
                      · left
                        have : (j + 1) * e'.sz ≤ i.toNat * e'.sz := Nat.mul_le_mul_right _ hgt'
                        rw [Nat.add_mul] at this; omega
                    rw [Nat.add_mul] at hjm
                    rw [putCells_get us c _ _ (by omega), if_neg (by omega)]
                    exact d2 m hm
                  · have : (setAt l i (g.f (gt e'.dflt l i) y'))[j] = l[j] := by
                      exact List.getElem_set_ne hij _
                    rw [this]; exact Rd.mono hF d3
            · exact (Res.to_fail he).elim
          · exact (Res.to_fail he).elim
        · exact (Res.to_fail he).elim
      · exact (Res.to_fail he).elim
  · exact (Res.to_fail he).elim

/-! ### what lies in a row is made zero -/
theorem clr_len {α : Type} (d : α) (l : List α) (a b : Int) : (clr d l a b).length = l.length := by simp [clr]
theorem clr_get {α : Type} (d : α) (l : List α) (a b : Int) (i : Nat) (h : i < l.length) : (clr d l a b)[i]'(by rw [clr_len]; exact h) = if a.toNat ≤ i ∧ i < b.toNat then d else l[i] := by
  simp [clr, h]
theorem clr_same {α : Type} (d : α) (l : List α) (a b : Int) (h : b.toNat ≤ a.toNat) : clr d l a b = l := by
  refine List.ext_getElem (clr_len _ _ _ _) fun i h1 h2 => ?_
  rw [clr_get _ _ _ _ _ h2, if_neg (by omega)]
include hΓ h in
theorem evClear_ok {t ty : Nat} {x : TV} {v : Value} (hx : TR P J B βs obs w x v) (he : (evClear Γ wr t x obs).To (tv, obs')) : Gives P J B βs obs wr w (Builtin.clear_ #[t] ty #[v]) tv obs' := by
  unfold evClear at he
  split at he
  · rename_i e hk
    obtain ⟨el, hu, hE⟩ := hΓ.slice hk
    split at he
    · rename_i e' L a b
      obtain ⟨hL, ha, hab, hv⟩ := hx
      split at he
      · rename_i hw
        have hob := h.obs.rep L hL
        split at he
        · rename_i e2 l ho
          split at he
          · rename_i l' ee hc hee
            obtain ⟨rfl, rfl⟩ := Res.to_nowV he
            obtain ⟨rfl, hll⟩ := cast_slice hc
            obtain rfl : l = l' := hll
            obtain ⟨rfl⟩ := ee
            rw [ho] at hob
            have hlo := getOb_lt ho rfl
            rcases hv with ⟨hv1, hb0, rfl⟩ | ⟨k, o, n, cp, hbv, hbn, hnc, rfl⟩
            · refine ⟨βs, .tuple #[], w, by simp [Builtin.clear_, run_underlying hu], h.write hlo (by rw [ho]; rfl) hw rfl rfl rfl rfl rfl (fun _ _ => rfl) (fun hF => ?_), trivial⟩
              rcases hob with ⟨q, rfl⟩ | ⟨b', off', cap', c, tt, fr, q1, q2⟩
              · exact .inl ⟨q, by simp [clr]⟩
              · rw [hv1] at q1; cases q1
            · rcases hob with ⟨q, _⟩ | ⟨b', off', cap', c, tt, fr, q1, q2, q3, q4, q5, q6⟩
              · rw [hbv] at q; cases q
              · rw [hbv] at q1
                cases q1
                by_cases hz : b.toNat - a.toNat = 0
                · rw [hz, clr_same _ _ _ _ (by omega)]
                  obtain ⟨A, hA⟩ : ∃ A, (if cp = a.toNat then some (⟨k, o, none⟩ : Addr) else some ⟨k, o + a.toNat * e2.sz, none⟩) = A := ⟨_, rfl⟩
                  rw [hA]
                  refine ⟨βs, .tuple #[], w, by cases A <;> simp [Builtin.clear_, run_underlying hu], h.write hlo (by rw [ho]; rfl) hw rfl rfl rfl rfl rfl (fun _ _ => rfl) (fun hF => .inr ⟨k, o, cp, c, tt, fr, hbv, q2, q3, q4, q5, fun i hi => ?_⟩), trivial⟩
                  obtain ⟨cs, c1, c2, c3⟩ := q6 i hi
                  exact ⟨cs, c1, c2, Rd.mono hF c3⟩
                · have hca : cp ≠ a.toNat := by omega
                  rw [if_neg hca]
                  obtain ⟨m, hm⟩ : ∃ m, b.toNat - a.toNat = m + 1 := ⟨b.toNat - a.toNat - 1, by omega⟩
                  obtain ⟨i, i1, i2, z, i3, i4⟩ := hE.info
                  have hzc := valCells_cells i4 (Kd.zero_one e2)
                  have hzs : z.cells.size = e2.sz := by rw [← Array.length_toList, hzc, Kd.zeroCells_length]
                  obtain ⟨us, hus⟩ : ∃ us, us = (Builtin.zeroCells z.cells (m + 1)).toList := ⟨_, rfl⟩
                  have hul : us.length = (m + 1) * e2.sz := by rw [hus, Array.length_toList, size_zeroCells, hzs]
                  have hug : ∀ q p, q < m + 1 → p < e2.sz → us[q * e2.sz + p]? = e2.zeroCells[p]? := fun q p hq hp => by
                    have hle : (q + 1) * e2.sz ≤ (m + 1) * e2.sz := Nat.mul_le_mul_right _ hq
                    rw [Nat.add_mul] at hle
                    have hlt : q * e2.sz + p < (m + 1) * z.cells.size := by rw [hzs]; omega
                    have hmod : (q * e2.sz + p) % z.cells.size = p := by rw [hzs, Nat.mul_comm, Nat.mul_add_mod, Nat.mod_eq_of_lt hp]
                    have hpz : p < z.cells.size := by omega
                    have e1 : e2.zeroCells[p]? = z.cells[p]? := by rw [← hzc, Array.getElem?_toList]
                    rw [e1, hus, Array.getElem?_toList]
                    simp [Builtin.zeroCells, hlt, hmod, hpz]
                  have hu1 : ∀ u ∈ us, u.oneCell' = true := fun u hu' => by
                    obtain ⟨j, hj, rfl⟩ := List.getElem_of_mem hu'
                    have hsp : 0 < e2.sz := by
                      rcases Nat.eq_zero_or_pos e2.sz with q | q
                      · rw [hul, q] at hj; simp at hj
                      · exact q
                    have hq : j / e2.sz < m + 1 := Nat.div_lt_of_lt_mul (by rw [Nat.mul_comm]; omega)
                    have hp : j % e2.sz < e2.sz := Nat.mod_lt _ hsp
                    have := hug _ _ hq hp
                    rw [Nat.mul_comm, Nat.div_add_mod, List.getElem?_eq_getElem hj, List.getElem?_eq_getElem (by rw [Kd.zeroCells_length]; exact hp)] at this
                    rw [Option.some.inj this]
                    exact Kd.zero_one e2 _ (List.getElem_mem _)
                  have hcap : l.length * e2.sz ≤ cp * e2.sz := Nat.mul_le_mul_right _ q5
                  have hin : a.toNat * e2.sz + (m + 1) * e2.sz ≤ l.length * e2.sz := by rw [← Nat.add_mul]; exact Nat.mul_le_mul_right _ (by omega)
                  have hst := run_storeCells_cells (P := P) k (o + a.toNat * e2.sz) us 0 w (fun j hj => by
                      rw [cell_of q2, Array.getElem?_eq_getElem (show o + a.toNat * e2.sz + 0 + j < c.size by omega)]; rfl)
                    (fun j hj => by
                      have := q3 (o + a.toNat * e2.sz + 0 + j) (by omega)
                      simp only [World.frozen?, q2]
                      exact this) hu1
                  simp only [Nat.add_zero] at hst
                  rw [hus] at hst
                  have hrun : (Builtin.clear_ #[t] ty #[.slice (some ⟨k, o + a.toNat * e2.sz, none⟩) (b.toNat - a.toNat) (cp - a.toNat)]).run P w = .ok (.tuple #[]) (w.setCells k (o + a.toNat * e2.sz) us) := by
                    rw [hus, hm]
                    simp [Builtin.clear_, run_underlying hu, zeroValue, typeInfo, i1, i3, hst]
                  refine ⟨βs, .tuple #[], _, hrun, h.write hlo (by rw [ho]; rfl) hw rfl (setCells_rest k us _ w).1 (setCells_rest k us _ w).2.1 (setCells_rest k us _ w).2.2 (setCells_size k us _ w) (fun q hq => heap_setCells_other k us _ w q (fun e => hq (by rw [hbv, e]; rfl)))
                    (fun hF => .inr ⟨k, o, cp, putCells c _ us, tt, fr, by rw [hbv, clr_len], heap_setCells_same k us _ w c tt fr q2, by rw [putCells_size]; exact q3, by rw [putCells_size]; exact q4, by rw [clr_len]; exact q5, fun j hj => ?_⟩), trivial⟩
                  have hj' : j < l.length := by rwa [clr_len] at hj
                  rw [clr_get _ _ _ _ _ hj']
                  by_cases hij : a.toNat ≤ j ∧ j < b.toNat
                  · rw [if_pos hij]
                    refine ⟨e2.zeroCells, Kd.zeroCells_length e2, fun p hp => ?_, Rd.zero e2⟩
                    have hd : j * e2.sz = a.toNat * e2.sz + (j - a.toNat) * e2.sz := by rw [← Nat.add_mul]; congr 1; omega
                    have hle : (j - a.toNat + 1) * e2.sz ≤ (m + 1) * e2.sz := Nat.mul_le_mul_right _ (by omega)
                    rw [Nat.add_mul] at hle
                    rw [putCells_get us c _ _ (by omega), if_pos (by omega), ← hug (j - a.toNat) p (by omega) hp]
                    congr 1
                    omega
                  · rw [if_neg hij]
                    obtain ⟨ds, d1, d2, d3⟩ := q6 j hj'
                    refine ⟨ds, d1, fun p hp => ?_, Rd.mono hF d3⟩
                    have hjm : j * e2.sz + p < a.toNat * e2.sz ∨ a.toNat * e2.sz + (m + 1) * e2.sz ≤ j * e2.sz + p := by
                      by_cases hlt : j < a.toNat
                      · left
                        have : (j + 1) * e2.sz ≤ a.toNat * e2.sz := Nat.mul_le_mul_right _ hlt
                        rw [Nat.add_mul] at this; omega
                      · right
                        have : (a.toNat + (m + 1)) * e2.sz ≤ j * e2.sz := Nat.mul_le_mul_right _ (by omega)
                        rw [Nat.add_mul] at this; omega
                    rw [putCells_get us c _ _ (by omega), if_neg (by omega)]
                    exact d2 p hp
          · exact (Res.to_fail he).elim
        · exact (Res.to_fail he).elim
      · exact (Res.to_fail he).elim
    · exact (Res.to_fail he).elim
  · exact (Res.to_fail he).elim

/-! ### maps -/
include h in
theorem evMakeMap_ok {t : Nat} {r : Option TV} {vr : Option Value} (hr : r = none → vr = none) (he : (evMakeMap Γ t r obs).To (tv, obs')) : Gives P J B βs obs wr w (Instr.makeMap t vr) tv obs' := by
  unfold evMakeMap at he
  split at he
  · exact (Res.to_fail he).elim
  · rw [hr rfl]
    split at he
    · rename_i kk kv hk
      obtain ⟨rfl, rfl⟩ := Res.to_nowV he
      obtain ⟨f1, f2, f3⟩ := alloc_facts w (.map #[] 0)
      refine Gives.labelM h (v := .map (some w.heap.size)) (w' := w.alloc (.map #[] 0)) (by simp [Instr.makeMap]) (h.fresh (.inl rfl) rfl rfl rfl (by omega) (fun b hb _ => f3 b hb) (fun b hb _ => f3 b hb) (fun b _ hb => ?_) (fun hF => ⟨_, rfl, #[], 0, f2, ⟨rfl, Go.MapKept.stamped_empty 0⟩, fun i hi => by cases hi⟩))
      cases hb
      exact ⟨.inl (Nat.le_refl _), by omega⟩
    · exact (Res.to_fail he).elim

theorem ba_beq (a b : ByteArray) : (a == b) = true ↔ a = b := by
  obtain ⟨x⟩ := a
  obtain ⟨y⟩ := b
  constructor
  · intro h
    have e : x = y := by simpa using (show (x == y) = true from h)
    rw [e]
  · intro h
    cases h
    show (x == x) = true
    simp
theorem keyEq_eq {k : Kd} {eq : k.T → k.T → Bool} (hk : Kd.keyEq k = some eq) {x y : k.T} (h : eq x y = true) : x = y := by
  cases k <;> simp only [Kd.keyEq, Option.some.injEq, reduceCtorEq] at hk
  · subst hk; simpa [ieq] using h
  · subst hk; simpa [beq2] using h
  · subst hk; exact (ba_beq _ _).1 h
theorem key_same {k : Kd} {eq : k.T → k.T → Bool} (hk : Kd.keyEq k = some eq) {F F' : Nat → Prop} {w w' : World} {v : Value} {x y : k.T} (h : RdV w F k v x) (h' : RdV w' F' k v y) : eq x y = true := by
  cases k <;> simp only [Kd.keyEq, Option.some.injEq, reduceCtorEq] at hk
  · have e := (rdv_int h).symm.trans (rdv_int h'); subst hk; cases e; simp [ieq]
  · have e := (rdv_bool h).symm.trans (rdv_bool h'); subst hk; cases e; simp [beq2]
  · have e := (rdv_str h).symm.trans (rdv_str h'); subst hk; cases e; exact (ba_beq _ _).2 rfl
theorem sameBits_key {k : Kd} {eq : k.T → k.T → Bool} (hk : Kd.keyEq k = some eq) {F F' : Nat → Prop} {w w' : World} {v v' : Value} {x : k.T} (h : RdV w F k v x) (h' : RdV w' F' k v' x) : v = v' ∧ Instr.sameBits 10000 v v' = true := by
  cases k <;> simp only [Kd.keyEq, Option.some.injEq, reduceCtorEq] at hk
  · rw [rdv_int h, rdv_int h']; exact ⟨rfl, by simp [Instr.sameBits]⟩
  · rw [rdv_bool h, rdv_bool h']; exact ⟨rfl, by simp [Instr.sameBits]⟩
  · rw [rdv_str h, rdv_str h']; exact ⟨rfl, (ba_beq _ _).2 rfl⟩

theorem findIdx?_at {α : Type} {p : α → Bool} : ∀ {l : List α} {j : Nat} (hj : j < l.length), p l[j] = true → (∀ q (hq : q < j), p (l[q]'(by omega)) = false) → l.findIdx? p = some j
  | a :: l, 0, _, h1, _ => by simp [List.findIdx?_cons, show p a = true by simpa using h1]
  | a :: l, j + 1, hj, h1, h2 => by
    have h0 : p a = false := by simpa using h2 0 (by omega)
    rw [List.findIdx?_cons, h0, findIdx?_at (l := l) (j := j) (by simpa using hj) (by simpa using h1) (fun q hq => by simpa using h2 (q + 1) (by omega))]
    rfl

include hΓ h in
theorem evMapUpdate_ok {t : Nat} {m x y : TV} {vm v u : Value} (hm : TR P J B βs obs w m vm) (hx : TR P J B βs obs w x v) (hy : TR P J B βs obs w y u) (he : (evMapUpdate Γ wr t m x y obs).To (tv, obs')) :
    GivesU P J B βs obs wr w (Instr.mapUpdate t vm v u) tv obs' := by
  unfold evMapUpdate at he
  split at he
  · rename_i kk kv L hk
    obtain ⟨hL, rfl⟩ := hm
    obtain ⟨tk, te, hu, hE, hK⟩ := hΓ.map hk
    split at he
    · rename_i obs1 hw hf
      have hs := frz1_step h hf
      obtain ⟨hrel, hst⟩ := frz1_rel hf
      have h1 := hs.rep' h
      have hob := h1.obs.rep L hL
      split at he
      · rename_i kk' kv' mm ho
        split at he
        · rename_i m' eq key b hc heq hkey hb
          obtain ⟨rfl, rfl⟩ := Res.to_nowV he
          obtain ⟨e1, hmm⟩ := Kd.cast_some hc
          cases e1
          obtain rfl : mm = m' := hmm
          rw [ho] at hob
          obtain ⟨r, hbv, es, clock, q1, ⟨q2, q2s⟩, q3⟩ := hob
          have hkv := toVal_rep h.obs hx hkey
          have hkk : kk.isVal = true := hkv.1
          obtain ⟨hyv, _⟩ := toVal_behind h hs hrel hst hy hb
          obtain ⟨_, cu, cu1, cu2⟩ := hyv
          obtain ⟨d, hd, _, hck⟩ := keyEq_now heq hK hkv hkv
          have hlo := getOb_lt ho rfl
          obtain ⟨rr, hr, hh⟩ := findNow_pairs (w := w) heq hK hkk hkv hd es.toList mm 0 (by simpa using q2) (fun j hj => by simpa using q3 j hj)
          have hget : (getObj r).run P w = .ok (.map es clock) w := by simp [getObj, Sem.run, q1]
          have hcc : (Instr.checkKey false 10000 tk v).run P w = .ok () w := hck false 9999 w
          have hset : ∀ o, (setObj r o).run P w = .ok () { w with heap := w.heap.setIfInBounds r o } := fun o => by simp [setObj, Sem.run, q1]
          have hrl : r < w.heap.size := (Array.getElem?_eq_some_iff.1 q1).1
          have key2 : ∀ (o : Obj) (mm' : List (kk.T × kv.T)), (Instr.mapUpdate t (bv βs L) v u).run P w = .ok () { w with heap := w.heap.setIfInBounds r o } →
              ((∀ b, Fz B βs obs1 w b → Fz B βs (obs1.set L (.map kk kv mm')) { w with heap := w.heap.setIfInBounds r o } b ∧ ({ w with heap := w.heap.setIfInBounds r o } : World).heap[b]? = w.heap[b]?) →
                MapIs { w with heap := w.heap.setIfInBounds r o } (Fz B βs (obs1.set L (.map kk kv mm')) { w with heap := w.heap.setIfInBounds r o }) kk kv r mm') →
              GivesU P J B βs obs wr w (Instr.mapUpdate t (bv βs L) v u) .skipped (obs1.set L (.map kk kv mm')) := fun o mm' hrun hmi =>
            ⟨βs, _, hrun, hs.trans (h1.write hlo (by rw [ho]; rfl) hw rfl rfl rfl rfl (by simp) (fun k hk => by
              have : r ≠ k := fun e => hk (by rw [hbv, e]; rfl)
              simp [Array.getElem?_setIfInBounds_ne this]) (fun hF => ⟨r, hbv, hmi hF⟩)), rfl⟩
          rcases hh with ⟨rfl, g1, g2⟩ | ⟨j, hj, en, cv, rfl, g1, g2, g3, g4, g5, g6⟩
          · have hmp : mput eq mm key b = mm ++ [(key, b)] := by
              have : mm.findIdx? (fun p => eq key p.1) = none := by
                rw [List.findIdx?_eq_none_iff]
                intro p hp
                have := List.any_eq_false.1 g2 p hp
                simpa using this
              unfold mput; rw [this]
            rw [hmp]
            refine key2 (.map (es.push { key := v, val := u, born := clock }) (clock + 1)) _ ?_ (fun hF => ⟨es.push { key := v, val := u, born := clock }, clock + 1, by simp [hrl], ⟨by simp [q2], Go.MapKept.stamped_push q2s fun e he hke => ?_⟩, fun i hi => ?_⟩)
            · rw [hbv]
              simp [Instr.mapUpdate, run_underlying hu, hget, hcc, Instr.findKey, run_underlying hd, hr, hset]
            · obtain ⟨i, hi, rfl⟩ := List.getElem_of_mem he
              have hi' : i < mm.length := by simpa [q2] using hi
              obtain ⟨en, ck, cv, e1, e2, e3, e4, e5⟩ := q3 i hi'
              have he1 : en = es.toList[i] := by
                have : es.toList[i]? = some en := by simpa using e1
                rw [List.getElem?_eq_getElem hi] at this
                exact (Option.some.inj this).symm
              rw [← he1] at hke
              have hno := List.any_eq_false.1 g2 mm[i] (List.getElem_mem hi')
              exact hno (key_same heq hkv (hke ▸ (⟨hkk, ck, e2, e4⟩ : RdV w (Fz B βs obs1 w) kk en.key mm[i].1)))
            · by_cases hil : i < mm.length
              · obtain ⟨en, ck, cv, e1, e2, e3, e4, e5⟩ := q3 i hil
                have hies : i < es.size := by omega
                refine ⟨en, ck, cv, by rw [Array.getElem?_push, if_neg (by omega)]; exact e1, e2, e3, ?_, ?_⟩
                · rw [List.getElem_append_left hil]; exact Rd.mono hF e4
                · rw [List.getElem_append_left hil]; exact Rd.mono hF e5
              · have : i = mm.length := by rw [List.length_append, List.length_singleton] at hi; omega
                subst this
                obtain ⟨_, ck, ck1, ck2⟩ := hkv
                refine ⟨_, ck, cu, by rw [Array.getElem?_push, if_pos q2.symm], ck1, cu1, ?_, ?_⟩
                · rw [List.getElem_append_right (Nat.le_refl _)]
                  simp only [Nat.sub_self, List.getElem_cons_zero]
                  have hflat : kk.flat = true := by
                    cases kk <;> simp only [Kd.keyEq, reduceCtorEq] at heq <;> rfl
                  exact Rd.flat_ hflat ck2
                · rw [List.getElem_append_right (Nat.le_refl _)]
                  simp only [Nat.sub_self, List.getElem_cons_zero]
                  exact Rd.mono hF cu2
          · have hmp : mput eq mm key b = mm.modify j (fun p => (p.1, b)) := by
              unfold mput
              rw [findIdx?_at (p := fun p => eq key p.1) hj g5 g6]
            rw [hmp]
            have hjes : j < es.size := by omega
            have hen : es[j]? = some en := by simpa using g1
            obtain ⟨en', ck', cv', e1, e2, e3, e4, e5⟩ := q3 j hj
            obtain rfl : en = en' := Option.some.inj (hen.symm.trans e1)
            have hkeyv : RdV w (Fz B βs obs1 w) kk en.key mm[j].1 := ⟨hkk, ck', e2, e4⟩
            have hke : key = mm[j].1 := keyEq_eq heq g5
            obtain ⟨hsame, hbits⟩ := sameBits_key heq hkeyv (hke ▸ hkv)
            refine key2 (.map (es.modify j fun e => { e with key := v, val := u }) clock) _ ?_ (fun hF => ⟨es.modify j fun e => { e with key := v, val := u }, clock, by simp [hrl], ⟨by simp [q2], Go.MapKept.stamped_modify q2s j _ (fun _ _ => rfl) fun e _ he => by rw [hen] at he; cases he; exact hsame.symm⟩, fun i hi => ?_⟩)
            · rw [hbv]
              simp [Instr.mapUpdate, run_underlying hu, hget, hcc, Instr.findKey, run_underlying hd, hr, hset, hen, Instr.keyThatStays, hbits]
            · rw [List.length_modify] at hi
              obtain ⟨en2, ck2, cv2, f1, f2, f3, f4, f5⟩ := q3 i hi
              by_cases hij : j = i
              · subst hij
                refine ⟨{ en with key := v, val := u }, ck', cu, by rw [Array.getElem?_modify, if_pos rfl, hen]; rfl, hsame ▸ e2, cu1, ?_, ?_⟩
                · rw [List.getElem_modify_eq]; exact Rd.mono hF e4
                · rw [List.getElem_modify_eq]; exact Rd.mono hF cu2
              · refine ⟨en2, ck2, cv2, by rw [Array.getElem?_modify, if_neg hij]; exact f1, f2, f3, ?_, ?_⟩
                · rw [List.getElem_modify_ne _ _ hij]; exact Rd.mono hF f4
                · rw [List.getElem_modify_ne _ _ hij]; exact Rd.mono hF f5
        · exact (Res.to_fail he).elim
      · exact (Res.to_fail he).elim
    · exact (Res.to_fail he).elim
  · exact (Res.to_fail he).elim

end Go.Proofs.YtbliiipcjbmbiaaGreatDoor.Ev
