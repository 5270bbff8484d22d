/- The small evaluator's rules for the operations that only read are right (this session's own). No condition. -/
import Derived.Test.YtbliiipcjbmbiaaGreatDoorEvT
namespace Go.Proofs.YtbliiipcjbmbiaaGreatDoor.Ev
open Go.RowKit
set_option linter.unusedVariables false
set_option linter.unusedSimpArgs false

variable {P : Program} {J : Inv} {Γ : Ctx} {B : Base} {C : LBase} {βs : List Value} {st : St} {a : Act} {w : World} {obs obs' : List Ob} {wr : Nat → Bool} {tv : TV}

/-! ### the form of a datum's value -/
theorem rdv_int {F : Nat → Prop} {k : IntKind} {v : Value} {x : Int} (h : RdV w F (.int k) v x) : v = .int k x := by
  obtain ⟨_, vs, h1, h2⟩ := h
  have : vs = [v] := h1
  rw [show vs = _ from h2] at this
  simpa using this.symm
theorem rdv_bool {F : Nat → Prop} {v : Value} {x : Bool} (h : RdV w F .bool v x) : v = .bool x := by
  obtain ⟨_, vs, h1, h2⟩ := h
  have : vs = [v] := h1
  rw [show vs = _ from h2] at this
  simpa using this.symm
theorem rdv_str {F : Nat → Prop} {v : Value} {x : ByteArray} (h : RdV w F .str v x) : v = .string x := by
  obtain ⟨_, vs, h1, h2⟩ := h
  have : vs = [v] := h1
  rw [show vs = _ from h2] at this
  simpa using this.symm
theorem rdv_slice {F : Nat → Prop} {e : Kd} {v : Value} {x : List e.T} (h : RdV w F (.slice e) v x) : ∃ A c, v = .slice A x.length c ∧ x.length ≤ c ∧ RdRow (Rd w F e) e.sz w F A x := by
  obtain ⟨_, vs, h1, A, c, h2, h3⟩ := h
  have : vs = [v] := h1
  rw [h2] at this
  exact ⟨A, c, by simpa using this.symm, h3⟩
theorem rdv_oslice {F : Nat → Prop} {n : Nat} {v : Value} {x : Nat} (h : RdV w F (.oslice n) v x) : ∃ A c, v = .slice A x c ∧ x ≤ c := by
  obtain ⟨_, vs, h1, A, c, h2, h3⟩ := h
  have : vs = [v] := h1
  rw [h2] at this
  exact ⟨A, c, by simpa using this.symm, h3⟩
theorem rdv_map {F : Nat → Prop} {kk kv : Kd} {v : Value} {m : List (kk.T × kv.T)} (h : RdV w F (.map kk kv) v m) : (v = .map none ∧ m = []) ∨ ∃ r, v = .map (some r) ∧ F r ∧ MapIs w F kk kv r m := by
  obtain ⟨_, vs, h1, h2⟩ := h
  have h1 : vs = [v] := h1
  rcases h2 with ⟨h2, h3⟩ | ⟨r, es, clock, h2, h3, h4, h5, h6⟩
  · rw [h2] at h1; exact .inl ⟨by simpa using h1.symm, h3⟩
  · rw [h2] at h1; exact .inr ⟨r, by simpa using h1.symm, h3, es, clock, h4, h5, h6⟩
theorem rdv_agg {F : Nat → Prop} {c : Kd} {v : Value} {x : c.T} (h : RdV w F (.agg c) v x) : ∃ vs : List Value, v = .agg vs.toArray ∧ Rd w F c vs x := by
  obtain ⟨_, vs, h1, h2⟩ := h
  exact ⟨vs, h1, h2⟩
theorem mk_int {F : Nat → Prop} (k : IntKind) (x : Int) : RdV w F (.int k) (.int k x) x := ⟨rfl, [_], rfl, rfl⟩
theorem mk_bool {F : Nat → Prop} (x : Bool) : RdV w F .bool (.bool x) x := ⟨rfl, [_], rfl, rfl⟩
theorem mk_str {F : Nat → Prop} (x : ByteArray) : RdV w F .str (.string x) x := ⟨rfl, [_], rfl, rfl⟩

/-! ### what an operation gives -/
def Gives (P : Program) (J : Inv) (B : Base) (βs : List Value) (obs : List Ob) (wr : Nat → Bool) (w : World) (s : Sem Value) (tv : TV) (obs' : List Ob) : Prop :=
  ∃ βs' v w', s.run P w = .ok v w' ∧ Step B βs obs wr w βs' obs' w' ∧ TVRep P J w' (Fz B βs' obs' w') B.S βs' tv v
theorem Gives.now (h : Rep' P J B βs obs w) {s : Sem Value} {v : Value} (hr : s.run P w = .ok v w) (ht : TVRep P J w (Fz B βs obs w) B.S βs tv v) : Gives P J B βs obs wr w s tv obs :=
  ⟨βs, v, w, hr, h.step_refl _, ht⟩
/-- behind a step that leaves memory as it is -/
theorem Gives.froze {obs1 : List Ob} {s : Sem Value} {v : Value} (hs : Step B βs obs wr w βs obs1 w) (hr : s.run P w = .ok v w) (ht : TVRep P J w (Fz B βs obs1 w) B.S βs tv v) : Gives P J B βs obs wr w s tv obs1 :=
  ⟨βs, v, w, hr, hs, ht⟩
theorem Res.to_nowV {x tv : TV} {obs obs' : List Ob} (h : (nowV x obs).To (tv, obs')) : x = tv ∧ obs = obs' := by
  have := Res.to_now h
  exact ⟨congrArg Prod.fst this, congrArg Prod.snd this⟩

variable (hΓ : CtxOK P J Γ) (h : Rep' P J B βs obs w)
abbrev TR (P : Program) (J : Inv) (B : Base) (βs : List Value) (obs : List Ob) (w : World) : TV → Value → Prop := TVRep P J w (Fz B βs obs w) B.S βs

include h in
theorem evMove_ok {d : Option Nat} {t : Nat} {x : TV} {v : Value} (hx : TR P J B βs obs w x v) (he : (evMove Γ wr d t x obs).To (tv, obs')) : Gives P J B βs obs wr w (pure v) tv obs' := by
  unfold evMove at he
  split at he
  · split at he
    · split at he
      · rename_i y obs1 e1 e2
        obtain ⟨rfl, rfl⟩ := Res.to_nowV he
        exact Gives.froze (frz1_step h e2) rfl (toVal_frz h hx e1 e2)
      · exact (Res.to_fail he).elim
    · exact (Res.to_fail he).elim
  · split at he
    · split at he
      · obtain ⟨rfl, rfl⟩ := Res.to_nowV he
        exact Gives.now h rfl hx
      · exact (Res.to_fail he).elim
    · obtain ⟨rfl, rfl⟩ := Res.to_nowV he
      exact Gives.now h rfl hx

include h in
theorem evPick_ok {c x y : TV} {vc vx vy : Value} (hc : TR P J B βs obs w c vc) (hx : TR P J B βs obs w x vx) (hy : TR P J B βs obs w y vy)
    (he : (evPick c x y obs).To (tv, obs')) : Gives P J B βs obs wr w (do pure (if ← asBool vc then vx else vy)) tv obs' := by
  unfold evPick at he
  split at he
  · rename_i b
    obtain rfl := rdv_bool hc
    rcases Res.to_ite he with ⟨rfl, he⟩ | ⟨rfl, he⟩
    · obtain ⟨rfl, rfl⟩ := Res.to_nowV he
      exact Gives.now h (by simp [asBool]) hx
    · obtain ⟨rfl, rfl⟩ := Res.to_nowV he
      exact Gives.now h (by simp [asBool]) hy
  · exact (Res.to_fail he).elim

theorem whole_some {k p : Kd} {off : Nat} {g : k.T → p.T} (h : Kd.whole k off p = some g) : off = 0 ∧ ∃ e : k = p, g = fun x => e ▸ x := by
  unfold Kd.whole at h
  split at h
  · rename_i h0
    split at h
    · rename_i e _
      exact ⟨h0, e, (Option.some.inj h).symm⟩
    · cases h
  · cases h
/-- a part of a datum lies in its cells -/
theorem proj_rd {F : Nat → Prop} : ∀ {k : Kd} {off : Nat} {p : Kd} {g : k.T → p.T} {vs : List Value} {x : k.T}, Kd.proj k off p = some g → Rd w F k vs x →
    off + p.sz ≤ k.sz ∧ Rd w F p ((vs.drop off).take p.sz) (g x) := by
  intro k
  induction k with
  | pair a b iha ihb =>
    intro off p g vs x hg hr
    have hl := Rd.length hr
    rw [Kd.proj] at hg
    split at hg
    · rename_i f hf
      cases hg
      obtain ⟨rfl, rfl, rfl⟩ := whole_some hf
      refine ⟨by rw [Nat.zero_add]; exact Nat.le_refl _, ?_⟩
      have : (vs.drop 0).take (Kd.pair a b).sz = vs := by rw [List.drop_zero, List.take_of_length_le (by omega)]
      rw [this]; exact hr
    · obtain ⟨va, vb, rfl, ha, hb⟩ := hr
      have la := Rd.length ha
      split at hg
      · rename_i hlt
        split at hg
        · rename_i f hf
          cases hg
          obtain ⟨h1, h2⟩ := iha hf ha
          refine ⟨by simp only [Kd.sz]; omega, ?_⟩
          have : ((va ++ vb).drop off).take p.sz = (va.drop off).take p.sz := by
            rw [List.drop_append_of_le_length (by omega), List.take_append_of_le_length (by rw [List.length_drop]; omega)]
          rw [this]; exact h2
        · cases hg
      · rename_i hlt
        split at hg
        · rename_i f hf
          cases hg
          obtain ⟨h1, h2⟩ := ihb hf hb
          refine ⟨by simp only [Kd.sz]; omega, ?_⟩
          have : (va ++ vb).drop off = vb.drop (off - a.sz) := by
            rw [List.drop_append, List.drop_eq_nil_of_le (by omega), List.nil_append, la]
          rw [this]; exact h2
        · cases hg
  | agg c ih =>
    intro off p g vs x hg hr
    have hl := Rd.length hr
    rw [Kd.proj] at hg
    split at hg
    · rename_i f hf
      cases hg
      obtain ⟨rfl, rfl, rfl⟩ := whole_some hf
      refine ⟨by rw [Nat.zero_add]; exact Nat.le_refl _, ?_⟩
      have : (vs.drop 0).take (Kd.agg c).sz = vs := by rw [List.drop_zero, List.take_of_length_le (by omega)]
      rw [this]; exact hr
    · exact ih hg hr
  | _ =>
    intro off p g vs x hg hr
    have hl := Rd.length hr
    simp only [Kd.proj] at hg
    obtain ⟨rfl, rfl, rfl⟩ := whole_some hg
    refine ⟨by rw [Nat.zero_add]; exact Nat.le_refl _, ?_⟩
    rw [List.drop_zero, List.take_of_length_le (by rw [hl]; exact Nat.le_refl _)]
    exact hr

/-- a part of a datum lies in its cells; it is like what was wanted -/
theorem projS_rd {F : Nat → Prop} : ∀ {k : Kd} {off : Nat} {p : Kd} {g : Kd.Pr k}, Kd.projS k off p = some g → Kd.sim g.p p = true ∧ ∀ {vs : List Value} {x : k.T}, Rd w F k vs x →
    off + g.p.sz ≤ k.sz ∧ Rd w F g.p ((vs.drop off).take g.p.sz) (g.f x) := by
  have whole : ∀ {k : Kd} {off : Nat} {p : Kd} {g : Kd.Pr k}, (Nat.beq off 0 && Kd.sim k p) = true → some (⟨k, fun x => x⟩ : Kd.Pr k) = some g → Kd.sim g.p p = true ∧ ∀ {vs : List Value} {x : k.T}, Rd w F k vs x →
      off + g.p.sz ≤ k.sz ∧ Rd w F g.p ((vs.drop off).take g.p.sz) (g.f x) := by
    intro k off p g hc hg
    rw [Bool.and_eq_true] at hc
    have h0 : off = 0 := Nat.eq_of_beq_eq_true hc.1
    subst h0
    cases hg
    refine ⟨hc.2, fun {vs x} hr => ⟨by rw [Nat.zero_add]; exact Nat.le_refl _, ?_⟩⟩
    have hl := Rd.length hr
    have : (vs.drop 0).take k.sz = vs := by rw [List.drop_zero, List.take_of_length_le (by omega)]
    show Rd w F k ((vs.drop 0).take k.sz) x
    rw [this]; exact hr
  intro k
  induction k with
  | pair a b iha ihb =>
    intro off p g hg
    rw [Kd.projS] at hg
    split at hg
    · rename_i hc; exact whole hc hg
    · split at hg
      · rename_i hlt
        have hlt : off < a.sz := by simpa [Nat.blt_eq] using hlt
        split at hg
        · rename_i f hf
          cases hg
          obtain ⟨i1, i2⟩ := iha hf
          refine ⟨i1, fun {vs x} hr => ?_⟩
          obtain ⟨va, vb, rfl, ha, hb⟩ := hr
          have la := Rd.length ha
          obtain ⟨h1, h2⟩ := i2 ha
          refine ⟨by simp only [Kd.sz]; omega, ?_⟩
          have : ((va ++ vb).drop off).take f.p.sz = (va.drop off).take f.p.sz := by
            rw [List.drop_append_of_le_length (by omega), List.take_append_of_le_length (by rw [List.length_drop]; omega)]
          show Rd w F f.p (((va ++ vb).drop off).take f.p.sz) (f.f x.1)
          rw [this]; exact h2
        · cases hg
      · rename_i hlt
        have hlt : ¬ off < a.sz := by
          intro q
          rw [show Nat.blt off a.sz = true by simpa [Nat.blt_eq] using q] at hlt
          cases hlt
        split at hg
        · rename_i f hf
          cases hg
          obtain ⟨i1, i2⟩ := ihb hf
          refine ⟨i1, fun {vs x} hr => ?_⟩
          obtain ⟨va, vb, rfl, ha, hb⟩ := hr
          have la := Rd.length ha
          obtain ⟨h1, h2⟩ := i2 hb
          refine ⟨by show off + f.p.sz ≤ (Kd.pair a b).sz; simp only [Kd.sz]; omega, ?_⟩
          have : (va ++ vb).drop off = vb.drop (off - a.sz) := by
            rw [List.drop_append, List.drop_eq_nil_of_le (by omega), List.nil_append, la]
          show Rd w F f.p (((va ++ vb).drop off).take f.p.sz) (f.f x.2)
          rw [this]; exact h2
        · cases hg
  | agg c ih =>
    intro off p g hg
    rw [Kd.projS] at hg
    split at hg
    · rename_i hc; exact whole hc hg
    · split at hg
      · rename_i f hf
        cases hg
        obtain ⟨i1, i2⟩ := ih hf
        exact ⟨i1, fun {vs x} hr => i2 (show Rd w F c vs x from hr)⟩
      · cases hg
  | _ =>
    intro off p g hg
    simp only [Kd.projS] at hg
    split at hg
    · rename_i hc; exact whole hc hg
    · cases hg

theorem evNilCheck_ok {x : TV} {v : Value} (hx : TR P J B βs obs w x v) (he : (evNilCheck x obs).To (tv, obs')) :
    obs = obs' ∧ x = tv ∧ ∃ ad, v = .pointer (some ad) := by
  unfold evNilCheck at he
  split at he
  · obtain ⟨rfl, rfl⟩ := Res.to_nowV he
    obtain ⟨_, b, _, h3⟩ := hx
    exact ⟨rfl, rfl, _, h3⟩
  · obtain ⟨rfl, rfl⟩ := Res.to_nowV he
    obtain ⟨_, b, o, n, c, _, _, _, h3⟩ := hx
    exact ⟨rfl, rfl, _, h3⟩
  · obtain ⟨rfl, rfl⟩ := Res.to_nowV he
    obtain ⟨ad, h3, _⟩ := hx
    exact ⟨rfl, rfl, _, h3⟩
  · exact (Res.to_fail he).elim

theorem add_add (ad : Addr) (m j : Nat) (h : ad.spot = none ∨ 0 < m) : (ad.add m).add j = ad.add (m + j) := by
  obtain ⟨b, o, s⟩ := ad
  unfold Addr.add
  rcases h with h | h
  · obtain rfl : s = none := h
    by_cases hm : m = 0 <;> by_cases hj : j = 0 <;> simp [hm, hj, Nat.add_assoc]
  · have : m ≠ 0 := by omega
    by_cases hj : j = 0 <;> simp [this, hj, Nat.add_assoc]

include hΓ h in
theorem evFieldAddr_ok {s f : Nat} {x : TV} {v : Value} (hx : TR P J B βs obs w x v) (he : (evFieldAddr Γ s x f obs).To (tv, obs')) :
    Gives P J B βs obs wr w (Instr.fieldAt s v f) tv obs' := by
  unfold evFieldAddr at he
  split at he
  · rename_i c flds y1 y2 y3 hy
    split at he
    · exact (Res.to_fail he).elim
    · rename_i off tf hf
      split at he
      · exact (Res.to_fail he).elim
      · rename_i kf hkf
        obtain ⟨_, fs, hu, _, hfs⟩ := hΓ.ty _ _ hy
        obtain ⟨fd, e1, e2, e3, _⟩ := hfs _ _ _ hf
        have hK := hΓ.kind hkf
        obtain ⟨i, i1, i2, i3⟩ := hK.info
        split at he
        · exact (Res.to_fail he).elim
        · rename_i hsz
          have hsz : 0 < kf.sz := by simpa [Nat.blt_eq] using hsz
          have hrun : ∀ ad : Addr, (Instr.fieldAt s (.pointer (some ad)) f).run P w = .ok (.pointer (some (ad.add off))) w := fun ad => by
            have hne : ¬ (i.size = 0) := by omega
            simp [Instr.fieldAt, run_underlying hu, e1, Instr.sureAddr, fieldPlace, sizeOf, typeInfo, e3, i1, hne, e2]
          split at he
          · obtain ⟨rfl, rfl⟩ := Res.to_nowV he
            obtain ⟨h1, b, h2, rfl⟩ := hx
            exact Gives.now h (hrun _) ⟨h1, b, h2, by rw [Addr.add_mid]⟩
          · obtain ⟨rfl, rfl⟩ := Res.to_nowV he
            obtain ⟨h1, b, o, n, cc, h2, h3, h4, rfl⟩ := hx
            exact Gives.now h (hrun _) ⟨h1, b, o, n, cc, h2, h3, h4, by rw [Addr.add_mid, Nat.add_assoc]⟩
          · rename_i k d
            split at he
            · rename_i g hg
              obtain ⟨rfl, rfl⟩ := Res.to_nowV he
              obtain ⟨ad, rfl, h2, cs, h3, h4, h5⟩ := hx
              obtain ⟨q0, q3⟩ := projS_rd (w := w) (F := Fz B βs obs w) hg
              obtain ⟨q1, q2⟩ := q3 h5
              have q0 := (Kd.sim_facts q0).1
              refine Gives.now h (hrun _) ⟨ad.add off, rfl, by rw [add_block]; exact h2, _, by rw [List.length_take, List.length_drop]; omega, fun j hj => ?_, q2⟩
              have hc : ∃ u, w.cell? (ad.add 0) = some u ∨ 0 < off := by
                by_cases h0 : 0 < off
                · exact ⟨undef, .inr h0⟩
                · have := h4 0 (by omega)
                  rw [List.getElem?_eq_getElem (show 0 < cs.length by omega)] at this
                  exact ⟨_, .inl this⟩
              have hspot : ad.spot = none ∨ 0 < off := by
                obtain ⟨u, hu | hu⟩ := hc
                · left
                  have : ad.add 0 = ad := by simp [Addr.add]
                  rw [this] at hu
                  unfold World.cell? at hu
                  split at hu
                  · split at hu
                    · cases hu
                    · rename_i hs; simpa using hs
                  · cases hu
                · exact .inr hu
              rw [add_add ad off j hspot, h4 (off + j) (by omega)]
              rw [List.getElem?_take, if_pos hj, List.getElem?_drop]
            · exact (Res.to_fail he).elim
          · exact (Res.to_fail he).elim
  · exact (Res.to_fail he).elim

theorem run_isAgg {t : Nat} {d : TypeDesc} (hu : P.underlying t = some d) : (isAgg t).run P w = .ok d.isRow w := by
  unfold isAgg
  rw [Sem.run_bind, run_underlying hu w]
  cases d <;> simp

include hΓ h in
theorem evField_ok {s f : Nat} {x : TV} {v : Value} (hx : TR P J B βs obs w x v) (he : (evField Γ s x f obs).To (tv, obs')) :
    Gives P J B βs obs wr w (Instr.field s v f) tv obs' := by
  unfold evField at he
  split at he
  · rename_i c flds y1 y2 y3 hy
    split at he
    · exact (Res.to_fail he).elim
    · rename_i off tf hf
      split at he
      · rename_i k d
        split at he
        · rename_i kf hkf
          split at he
          · rename_i g hg
            obtain ⟨rfl, rfl⟩ := Res.to_nowV he
            obtain ⟨_, fs, hu, _, hfs⟩ := hΓ.ty _ _ hy
            obtain ⟨fd, e1, e2, e3, _⟩ := hfs _ _ _ hf
            have hK := hΓ.kind hkf
            obtain ⟨i, i1, i2, i3⟩ := hK.info
            obtain ⟨dd, hd, hrow⟩ := hK.row
            obtain ⟨vs, rfl, hr⟩ := rdv_agg hx
            obtain ⟨q0, q3⟩ := projS_rd (w := w) (F := Fz B βs obs w) hg
            obtain ⟨q1, q2⟩ := q3 hr
            obtain ⟨s1, s2, s3, s4⟩ := Kd.sim_facts q0
            have hK' := hK.sim q0
            rw [← s1] at i2
            rw [← s2] at hrow
            have hl := Rd.length hr
            have hq := Rd.length q2
            have hag := run_isAgg (w := w) hd
            rw [hrow] at hag
            cases hA : g.p.isAgg with
            | true =>
              refine Gives.now h (v := .agg ((vs.drop off).take g.p.sz).toArray) ?_ ⟨hK'.isVal, _, by simp [valCells, hA], q2⟩
              rw [hA] at hag
              simp [Instr.field, run_underlying hu, e1, asAgg, part, e3, hag, sizeOf, typeInfo, i1, i2, e2]
              try rw [List.drop_take]
              try (congr 1; omega)
            | false =>
              obtain ⟨vs1, hvs1, q3⟩ : ∃ u, (vs.drop off).take g.p.sz = [u] ∧ RdV w (Fz B βs obs w) g.p u (g.f d) := by
                have h1 : g.p.sz = 1 := by
                  have hv := hK'.isVal
                  generalize g.p = kk at hv hA ⊢
                  cases kk <;> simp_all [Kd.isVal, Kd.sz, Kd.isAgg]
                rw [h1] at hq
                obtain ⟨u, hu⟩ := List.length_eq_one_iff.1 hq
                rw [h1] at q2
                exact ⟨u, by rw [h1]; exact hu, hK'.isVal, [u], by simp [valCells, hA], by rw [← hu]; exact q2⟩
              refine Gives.now h (v := vs1) ?_ q3
              rw [hA] at hag
              have h2 : vs[off]? = some vs1 := by
                have h3 := congrArg (fun l => l[0]?) hvs1
                simp only [List.getElem?_take, List.getElem?_drop, Nat.add_zero] at h3
                split at h3
                · simpa using h3
                · simp at h3
              simp [Instr.field, run_underlying hu, e1, asAgg, part, e3, hag, e2, h2]
          · exact (Res.to_fail he).elim
        · exact (Res.to_fail he).elim
      · exact (Res.to_fail he).elim
  · exact (Res.to_fail he).elim

end Go.Proofs.YtbliiipcjbmbiaaGreatDoor.Ev
