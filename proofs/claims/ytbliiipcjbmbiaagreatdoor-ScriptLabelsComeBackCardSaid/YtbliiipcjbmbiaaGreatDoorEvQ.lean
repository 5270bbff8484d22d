/- The small evaluator's rules for the operations that only read are right: elements, cuts, look-ups, arithmetic (this session's own). No condition. -/
import Derived.Test.YtbliiipcjbmbiaaGreatDoorEvP
namespace Go.Proofs.YtbliiipcjbmbiaaGreatDoor.Ev
open Go.RowKit
set_option linter.unusedVariables false
set_option linter.unusedSimpArgs false

variable {P : Program} {J : Inv} {Γ : Ctx} {B : Base} {C : LBase} {βs : List Value} {st : St} {a : Act} {w : World} {obs obs' : List Ob} {wr : Nat → Bool} {tv : TV}
variable (hΓ : CtxOK P J Γ) (h : Rep' P J B βs obs w)

theorem inb_some {n i : Int} {u : Unit} (h : inb n i = some u) : 0 ≤ i ∧ i < n := by
  unfold inb at h
  split at h
  · assumption
  · cases h
theorem at?_some {α : Type} {l : List α} {i : Int} {x : α} (h : at? l i = some x) : 0 ≤ i ∧ ∃ hl : i.toNat < l.length, l[i.toNat] = x := by
  unfold at? at h
  split at h
  · rename_i h0
    obtain ⟨hl, e⟩ := List.getElem?_eq_some_iff.1 h
    exact ⟨h0, hl, e⟩
  · cases h

theorem CtxOK.slice (hΓ : CtxOK P J Γ) {t : Nat} {e : Kd} (hk : kindOf Γ t = some (.slice e)) : ∃ el, P.underlying t = some (.slice el) ∧ ElOK P el e := by
  unfold kindOf at hk
  split at hk
  · rename_i y hy
    obtain ⟨h1, h2⟩ := hΓ.ty _ _ hy
    have hk : y.k = .slice e := Option.some.inj hk
    rw [hk] at h2
    exact ⟨_, h2.1, h2.2.1⟩
  · cases hk
theorem CtxOK.optr (hΓ : CtxOK P J Γ) {t : Nat} (hk : kindOf Γ t = some .optr) : ∃ el, P.underlying t = some (.pointer el) ∧ ∃ i, P.info? el = some i ∧ i.size ≠ 0 := by
  unfold kindOf at hk
  split at hk
  · rename_i y hy
    obtain ⟨h1, h2⟩ := hΓ.ty _ _ hy
    have hk : y.k = .optr := Option.some.inj hk
    rw [hk] at h2
    exact ⟨_, h2⟩
  · cases hk
theorem CtxOK.oslice (hΓ : CtxOK P J Γ) {t : Nat} {n : Nat} (hk : kindOf Γ t = some (.oslice n)) : ∃ el, P.underlying t = some (.slice el) := by
  unfold kindOf at hk
  split at hk
  · rename_i y hy
    obtain ⟨h1, h2⟩ := hΓ.ty _ _ hy
    have hk : y.k = .oslice n := Option.some.inj hk
    rw [hk] at h2
    exact ⟨_, h2⟩
  · cases hk
theorem CtxOK.str (hΓ : CtxOK P J Γ) {t : Nat} (hk : kindOf Γ t = some .str) : P.underlying t = some .string := by
  unfold kindOf at hk
  split at hk
  · rename_i y hy
    obtain ⟨h1, h2⟩ := hΓ.ty _ _ hy
    have hk : y.k = .str := Option.some.inj hk
    rw [hk] at h2
    exact h2
  · cases hk
theorem CtxOK.bool (hΓ : CtxOK P J Γ) {t : Nat} (hk : kindOf Γ t = some .bool) : P.underlying t = some .bool := by
  unfold kindOf at hk
  split at hk
  · rename_i y hy
    obtain ⟨h1, h2⟩ := hΓ.ty _ _ hy
    have hk : y.k = .bool := Option.some.inj hk
    rw [hk] at h2
    exact h2
  · cases hk
theorem CtxOK.int (hΓ : CtxOK P J Γ) {t : Nat} {j : IntKind} (hk : kindOf Γ t = some (.int j)) : P.underlying t = some (.int j) := by
  unfold kindOf at hk
  split at hk
  · rename_i y hy
    obtain ⟨h1, h2⟩ := hΓ.ty _ _ hy
    have hk : y.k = .int j := Option.some.inj hk
    rw [hk] at h2
    exact h2
  · cases hk
theorem CtxOK.map (hΓ : CtxOK P J Γ) {t : Nat} {kk kv : Kd} (hk : kindOf Γ t = some (.map kk kv)) : ∃ tk te, P.underlying t = some (.map tk te) ∧ ElOK P te kv ∧ KeyOK P tk kk := by
  unfold kindOf at hk
  split at hk
  · rename_i y hy
    obtain ⟨h1, h2⟩ := hΓ.ty _ _ hy
    have hk : y.k = .map kk kv := Option.some.inj hk
    rw [hk] at h2
    exact ⟨_, _, h2⟩
  · cases hk
theorem ElOK.size {t : Nat} {k : Kd} (hE : ElOK P t k) : (sizeOf t).run P w = .ok k.sz w := by
  obtain ⟨i, h1, h2, _⟩ := hE.info
  simp [sizeOf, typeInfo, h1, h2]

theorem run_indexAt {t el : Nat} {e : Kd} (hu : P.underlying t = some (.slice el)) (hE : ElOK P el e) (ad : Addr) (n c : Nat) (kk : IntKind) (i : Int) (h0 : 0 ≤ i) (h1 : i < n) :
    (Instr.indexAt t (.slice (some ad) n c) (.int kk i)).run P w = .ok (.pointer (some (ad.add (i.toNat * e.sz)))) w := by
  simp [Instr.indexAt, asIntOf, run_underlying hu, hE.size, h0, h1]

/-- an element of what is only read -/
theorem rop_of {F S : Nat → Prop} {e : Kd} {l : List e.T} {v : Value} {t el : Nat} (hu : P.underlying t = some (.slice el)) (hE : ElOK P el e) (hv : RdV w F (.slice e) v l) {kk : IntKind} {n : Int} {d : e.T} (hd : at? l n = some d) :
    ∃ v', (Instr.indexAt t v (.int kk n)).run P w = .ok v' w ∧ TVRep P J w F S βs (.rop e d) v' := by
  obtain ⟨h0, hl, rfl⟩ := at?_some hd
  obtain ⟨A, c, rfl, hc, hr⟩ := rdv_slice hv
  rcases hr with rfl | ⟨ad, rfl, hF, hcs⟩
  · simp at hl
  · obtain ⟨cs, c1, c2, c3⟩ := hcs _ hl
    refine ⟨_, run_indexAt hu hE ad _ c kk n h0 (by omega), ad.add (n.toNat * e.sz), rfl, by rw [add_block]; exact .inl hF, cs, c1, fun j hj => ?_, c3⟩
    rw [← c2 j hj]
    by_cases hm : 0 < n.toNat * e.sz
    · rw [add_add ad _ j (.inr hm)]
    · have : n.toNat * e.sz = 0 := by omega
      rw [this, Nat.zero_add]
      have h00 : ad.add 0 = ad := by simp [Addr.add]
      rw [h00]

include hΓ h in
theorem evIndexAddr_ok {t : Nat} {x i : TV} {v vi : Value} (hx : TR P J B βs obs w x v) (hi : TR P J B βs obs w i vi) (he : (evIndexAddr Γ t x i obs).To (tv, obs')) :
    Gives P J B βs obs wr w (Instr.indexAt t v vi) tv obs' := by
  unfold evIndexAddr at he
  split at he
  · rename_i e j n hk
    obtain rfl := rdv_int hi
    obtain ⟨el, hu, hE⟩ := hΓ.slice hk
    split at he
    · rename_i L
      obtain ⟨hL, rfl⟩ := hx
      have hr := h.obs.rep L hL
      split at he
      · rename_i e' l ho
        split at he
        · rename_i heq _
          obtain ⟨rfl⟩ := heq
          obtain ⟨u, hu', he⟩ := Res.to_bind he
          obtain ⟨rfl, rfl⟩ := Res.to_nowV he
          obtain ⟨h0, h1⟩ := inb_some hu'
          rw [ho] at hr
          rcases hr with ⟨hv, rfl⟩ | ⟨b, off, cap, c, tt, fr, hv, h2, h3, h4, h5, h6⟩
          · simp [len] at h1; omega
          · rw [hv]
            refine Gives.now h (run_indexAt hu hE _ _ cap j n h0 (by simpa [len] using h1)) ⟨hL, b, off, _, cap, hv, h0, by simpa [len] using h1, ?_⟩
            rw [Addr.add_mid, Nat.add_zero]
        · exact (Res.to_fail he).elim
      · rename_i e' l ho
        split at he
        · rename_i l' hc
          obtain ⟨d, hd, he⟩ := Res.to_bind he
          obtain ⟨rfl, rfl⟩ := Res.to_nowV he
          rw [ho] at hr
          obtain ⟨v', hv', ht⟩ := rop_of (P := P) (J := J) (βs := βs) hu hE (RdV.cast hr hc) (kk := j) hd
          exact Gives.now h hv' ht
        · exact (Res.to_fail he).elim
      · exact (Res.to_fail he).elim
    · rename_i e' l
      split at he
      · rename_i hs
        obtain ⟨d, hd, he⟩ := Res.to_bind he
        obtain ⟨rfl, rfl⟩ := Res.to_nowV he
        obtain ⟨v', hv', ht⟩ := rop_of (P := P) (J := J) (βs := βs) hu (hE.sim hs) hx (kk := j) hd
        exact Gives.now h hv' ht
      · exact (Res.to_fail he).elim
    · exact (Res.to_fail he).elim
  · exact (Res.to_fail he).elim

theorem bt?_some {s : ByteArray} {i c : Int} (h : bt? s i = some c) : 0 ≤ i ∧ i < s.size ∧ bt s i = c := by
  unfold bt? at h
  split at h
  · rename_i h0; exact ⟨h0.1, h0.2, Option.some.inj h⟩
  · cases h
include hΓ h in
theorem evIndex_ok {t : Nat} {x i : TV} {v vi : Value} (hx : TR P J B βs obs w x v) (hi : TR P J B βs obs w i vi) (he : (evIndex Γ t x i obs).To (tv, obs')) :
    Gives P J B βs obs wr w (Instr.index t v vi) tv obs' := by
  unfold evIndex at he
  split at he
  · rename_i s j n hk
    obtain rfl := rdv_int hi
    obtain rfl := rdv_str hx
    obtain ⟨c, hc, he⟩ := Res.to_bind he
    obtain ⟨rfl, rfl⟩ := Res.to_nowV he
    obtain ⟨h0, h1, rfl⟩ := bt?_some hc
    have hlt : n.toNat < s.size := by omega
    refine Gives.now h (v := .int .u8 (bt s n)) ?_ (mk_int _ _)
    simp [Instr.index, asIntOf, run_underlying (hΓ.str hk), h0, ByteArray.getElem?_lt' s _ hlt, bt, hlt]
  · exact (Res.to_fail he).elim

theorem cast_slice {e' e : Kd} {l : List e'.T} {l' : List e.T} (h : Kd.cast (.slice e') (.slice e) l = some l') : ∃ q : e' = e, (q ▸ l : List e.T) = l' := by
  obtain ⟨e1, rfl⟩ := Kd.cast_some h
  cases e1
  exact ⟨rfl, rfl⟩
/-! ### cuts -/
theorem cut?_some {α : Type} {l r : List α} {a b : Int} (h : cut? l a b = some r) : 0 ≤ a ∧ a ≤ b ∧ b ≤ l.length ∧ r = (l.take b.toNat).drop a.toNat := by
  unfold cut? at h
  split at h
  · rename_i h0; exact ⟨h0.1, h0.2.1, h0.2.2, (Option.some.inj h).symm⟩
  · cases h
theorem sub?_some {s r : ByteArray} {a b : Int} (h : sub? s a b = some r) : 0 ≤ a ∧ a ≤ b ∧ b ≤ s.size ∧ r = s.extract a.toNat b.toNat := by
  unfold sub? at h
  split at h
  · rename_i h0; exact ⟨h0.1, h0.2.1, h0.2.2, (Option.some.inj h).symm⟩
  · cases h
theorem RdRow.cut {α : Type} {R : List Value → α → Prop} {sz : Nat} {F : Nat → Prop} {A : Option Addr} {xs : List α} (h : RdRow R sz w F A xs) (lo hi cap : Nat) (h1 : lo ≤ hi) (h2 : hi ≤ xs.length) (h3 : xs.length ≤ cap) :
    RdRow R sz w F (if cap = lo then A else A.map (·.add (lo * sz))) ((xs.take hi).drop lo) := by
  rcases h with rfl | ⟨ad, rfl, hF, hc⟩
  · exact .inl (by simp)
  · by_cases e : cap = lo
    · left
      apply List.eq_nil_of_length_eq_zero
      rw [List.length_drop, List.length_take]; omega
    · rw [if_neg e]
      refine .inr ⟨ad.add (lo * sz), rfl, by rw [add_block]; exact hF, fun i hi' => ?_⟩
      have hi2 : i < hi - lo := by rw [List.length_drop, List.length_take] at hi'; omega
      obtain ⟨cs, c1, c2, c3⟩ := hc (lo + i) (by omega)
      refine ⟨cs, c1, fun j hj => ?_, by simpa using c3⟩
      rw [← c2 j hj, show (lo + i) * sz + j = lo * sz + (i * sz + j) by rw [Nat.add_mul]; omega]
      by_cases hm : 0 < lo * sz
      · rw [add_add ad _ _ (.inr hm)]
      · have : lo * sz = 0 := by omega
        rw [this, Nat.zero_add]
        have h00 : ad.add 0 = ad := by simp [Addr.add]
        rw [h00]

theorem bound_low {lo : Option TV} {vlo : Option Value} {a : Int} (hlo : ∀ x, lo = some x → ∃ v, vlo = some v ∧ TR P J B βs obs w x v) (hn : lo = none → vlo = none) (ha : lowOf lo = some a) :
    (lo = none ∧ vlo = none ∧ a = 0) ∨ ∃ k, vlo = some (.int k a) := by
  cases lo with
  | none => cases ha; exact .inl ⟨rfl, hn rfl, rfl⟩
  | some x =>
    obtain ⟨v, hv, ht⟩ := hlo x rfl
    unfold lowOf at ha
    split at ha
    · simp at *
    · rename_i k n heq
      cases heq
      cases ha
      obtain rfl := rdv_int ht
      exact .inr ⟨k, hv⟩
    · cases ha
theorem bound_high {hi : Option TV} {vhi : Option Value} {len b : Int} (hhi : ∀ x, hi = some x → ∃ v, vhi = some v ∧ TR P J B βs obs w x v) (hn : hi = none → vhi = none) (hb : highOf len hi = some b) :
    (hi = none ∧ vhi = none ∧ b = len) ∨ ∃ k, vhi = some (.int k b) := by
  cases hi with
  | none => cases hb; exact .inl ⟨rfl, hn rfl, rfl⟩
  | some x =>
    obtain ⟨v, hv, ht⟩ := hhi x rfl
    unfold highOf at hb
    split at hb
    · simp at *
    · rename_i k n heq
      cases heq
      cases hb
      obtain rfl := rdv_int ht
      exact .inr ⟨k, hv⟩
    · cases hb

theorem run_cut_slice {t el : Nat} {e : Kd} (hu : P.underlying t = some (.slice el)) (hE : ElOK P el e) (A : Option Addr) (n c : Nat) (hnc : n ≤ c) {a b : Int} (h0 : 0 ≤ a) (h1 : a ≤ b) (h2 : b ≤ n) (vlo vhi : Option Value)
    (hlo : (vlo = none ∧ a = 0) ∨ ∃ k, vlo = some (.int k a)) (hhi : (vhi = none ∧ b = n) ∨ ∃ k, vhi = some (.int k b)) :
    (Instr.sliceAt t (.slice A n c) vlo vhi none).run P w = .ok (.slice (if c = a.toNat then A else A.map (·.add (a.toNat * e.sz))) (b.toNat - a.toNat) (c - a.toNat)) w := by
  have hb : b ≤ c := by omega
  have hbn : 0 ≤ b := by omega
  rcases hlo with ⟨rfl, rfl⟩ | ⟨kl, rfl⟩ <;> rcases hhi with ⟨rfl, rfl⟩ | ⟨kh, rfl⟩
  · simp [Instr.sliceAt, Instr.slice, run_underlying hu, Instr.sliceBounds, hE.size]
  · simp [Instr.sliceAt, Instr.slice, run_underlying hu, Instr.sliceBounds, Instr.sliceBound, asIntOf, hE.size, hb, hbn]
  · have : a ≤ (n : Int) := by omega
    simp [Instr.sliceAt, Instr.slice, run_underlying hu, Instr.sliceBounds, Instr.sliceBound, asIntOf, hE.size, h0, this]
  · have : a ≤ max b 0 := by omega
    have hnm : ¬ (max b 0 < a) := by omega
    simp [Instr.sliceAt, Instr.slice, run_underlying hu, Instr.sliceBounds, Instr.sliceBound, asIntOf, hE.size, hb, hbn, h0, this, hnm]
theorem run_cut_string {t : Nat} (hu : P.underlying t = some .string) (s : ByteArray) {a b : Int} (h0 : 0 ≤ a) (h1 : a ≤ b) (h2 : b ≤ s.size) (vlo vhi : Option Value)
    (hlo : (vlo = none ∧ a = 0) ∨ ∃ k, vlo = some (.int k a)) (hhi : (vhi = none ∧ b = s.size) ∨ ∃ k, vhi = some (.int k b)) :
    (Instr.sliceAt t (.string s) vlo vhi none).run P w = .ok (.string (s.extract a.toNat b.toNat)) w := by
  have hbn : 0 ≤ b := by omega
  rcases hlo with ⟨rfl, rfl⟩ | ⟨kl, rfl⟩ <;> rcases hhi with ⟨rfl, rfl⟩ | ⟨kh, rfl⟩
  · simp [Instr.sliceAt, Instr.slice, run_underlying hu, Instr.sliceBounds]
  · simp [Instr.sliceAt, Instr.slice, run_underlying hu, Instr.sliceBounds, Instr.sliceBound, asIntOf, h2, hbn]
  · have : a ≤ (s.size : Int) := by omega
    simp [Instr.sliceAt, Instr.slice, run_underlying hu, Instr.sliceBounds, Instr.sliceBound, asIntOf, h0, this]
  · have : a ≤ max b 0 := by omega
    have hnm : ¬ (max b 0 < a) := by omega
    simp [Instr.sliceAt, Instr.slice, run_underlying hu, Instr.sliceBounds, Instr.sliceBound, asIntOf, h2, hbn, h0, this, hnm]

theorem run_cut_slice3 {t el : Nat} {e : Kd} (hu : P.underlying t = some (.slice el)) (hE : ElOK P el e) (A : Option Addr) (n c : Nat) {a b m : Int} (h0 : 0 ≤ a) (h1 : a ≤ b) (h2 : b ≤ m) (h3 : m ≤ c) (vlo : Option Value) (kh km : IntKind)
    (hlo : (vlo = none ∧ a = 0) ∨ ∃ k, vlo = some (.int k a)) :
    (Instr.sliceAt t (.slice A n c) vlo (some (.int kh b)) (some (.int km m))).run P w = .ok (.slice (if m.toNat = a.toNat then A else A.map (·.add (a.toNat * e.sz))) (b.toNat - a.toNat) (m.toNat - a.toNat)) w := by
  have hm0 : 0 ≤ m := by omega
  have hbn : 0 ≤ b := by omega
  have hbm : b ≤ max m 0 := by omega
  have q1 : ¬ (max m 0 < b) := by omega
  rcases hlo with ⟨rfl, rfl⟩ | ⟨kl, rfl⟩
  · simp [Instr.sliceAt, Instr.slice, run_underlying hu, Instr.sliceBounds, Instr.sliceBound, asIntOf, hE.size, h3, hm0, hbn, hbm, q1]
  · have q2 : a ≤ max b 0 := by omega
    have q3 : ¬ (max b 0 < a) := by omega
    simp [Instr.sliceAt, Instr.slice, run_underlying hu, Instr.sliceBounds, Instr.sliceBound, asIntOf, hE.size, h3, hm0, hbn, hbm, q1, h0, q2, q3]
theorem cut_of3 {F : Nat → Prop} {e : Kd} {l r : List e.T} {v : Value} {t el : Nat} (hu : P.underlying t = some (.slice el)) (hE : ElOK P el e) (hv : RdV w F (.slice e) v l) {a b m : Int} (hr : cut? l a b = some r) (hm1 : b ≤ m) (hm2 : m ≤ l.length) (vlo : Option Value) (kh km : IntKind)
    (hlo : (vlo = none ∧ a = 0) ∨ ∃ k, vlo = some (.int k a)) :
    ∃ v', (Instr.sliceAt t v vlo (some (.int kh b)) (some (.int km m))).run P w = .ok v' w ∧ RdV w F (.slice e) v' r := by
  obtain ⟨h0, h1, h2, rfl⟩ := cut?_some hr
  obtain ⟨A, c, rfl, hc, hrow⟩ := rdv_slice hv
  have htake : RdRow (Rd w F e) e.sz w F A (l.take b.toNat) := by
    rcases hrow with rfl | ⟨ad, rfl, hF, hcell⟩
    · exact .inl (by simp)
    · refine .inr ⟨ad, rfl, hF, fun i hi => ?_⟩
      have hi' : i < l.length := by rw [List.length_take] at hi; omega
      obtain ⟨cs, c1, c2, c3⟩ := hcell i hi'
      exact ⟨cs, c1, c2, by simpa using c3⟩
  have hl : (l.take b.toNat).length = b.toNat := by rw [List.length_take]; omega
  have hcut := htake.cut a.toNat b.toNat m.toNat (by omega) (by omega) (by omega)
  rw [List.take_of_length_le (by omega)] at hcut
  refine ⟨_, run_cut_slice3 hu hE A _ c h0 h1 hm1 (by omega) vlo kh km hlo, rfl, [_], rfl, _, m.toNat - a.toNat, ?_, ?_, hcut⟩
  · congr 3
    rw [List.length_drop, List.length_take]; omega
  · rw [List.length_drop, List.length_take]; omega

/-- a cut of what is only read -/
theorem cut_of {F : Nat → Prop} {e : Kd} {l r : List e.T} {v : Value} {t el : Nat} (hu : P.underlying t = some (.slice el)) (hE : ElOK P el e) (hv : RdV w F (.slice e) v l) {a b : Int} (hr : cut? l a b = some r) (vlo vhi : Option Value)
    (hlo : (vlo = none ∧ a = 0) ∨ ∃ k, vlo = some (.int k a)) (hhi : (vhi = none ∧ b = l.length) ∨ ∃ k, vhi = some (.int k b)) :
    ∃ v', (Instr.sliceAt t v vlo vhi none).run P w = .ok v' w ∧ RdV w F (.slice e) v' r := by
  obtain ⟨h0, h1, h2, rfl⟩ := cut?_some hr
  obtain ⟨A, c, rfl, hc, hrow⟩ := rdv_slice hv
  refine ⟨_, run_cut_slice hu hE A _ c hc h0 h1 h2 vlo vhi hlo hhi, rfl, [_], rfl, _, c - a.toNat, ?_, ?_, hrow.cut a.toNat b.toNat c (by omega) (by omega) hc⟩
  · congr 3
    rw [List.length_drop, List.length_take]; omega
  · rw [List.length_drop, List.length_take]; omega

/-- the result is a new own array -/
theorem Gives.label (h : Rep' P J B βs obs w) {s : Sem Value} {v : Value} {w' : World} {obs1 : List Ob} {o : Ob} (hr : s.run P w = .ok v w') (hs : Step B βs obs wr w (βs ++ [v]) (obs1 ++ [o]) w') :
    Gives P J B βs obs wr w s (.arr obs.length) (obs1 ++ [o]) := by
  refine ⟨_, v, w', hr, hs, ⟨by simp [h.obs.len], ?_⟩⟩
  rw [bv_append, h.obs.len, if_neg (by omega), if_pos rfl]
theorem Gives.labelM (h : Rep' P J B βs obs w) {s : Sem Value} {v : Value} {w' : World} {obs1 : List Ob} {o : Ob} (hr : s.run P w = .ok v w') (hs : Step B βs obs wr w (βs ++ [v]) (obs1 ++ [o]) w') :
    Gives P J B βs obs wr w s (.map obs.length) (obs1 ++ [o]) := by
  refine ⟨_, v, w', hr, hs, ⟨by simp [h.obs.len], ?_⟩⟩
  rw [bv_append, h.obs.len, if_neg (by omega), if_pos rfl]
theorem getOb_lt {L : Nat} {o : Ob} (h : getOb obs L = o) (hl : o.live = true) : L < obs.length := getOb_live_lt (by rw [h]; exact hl)

include hΓ h in
theorem evSlice_ok {own vw : Bool} {t : Nat} {x : TV} {v : Value} {lo hi mx : Option TV} {vlo vhi vmx : Option Value} (hx : TR P J B βs obs w x v)
    (hlo : ∀ x, lo = some x → ∃ v, vlo = some v ∧ TR P J B βs obs w x v) (hlon : lo = none → vlo = none)
    (hhi : ∀ x, hi = some x → ∃ v, vhi = some v ∧ TR P J B βs obs w x v) (hhin : hi = none → vhi = none) (hmx : mx = none → vmx = none) (hmx' : ∀ x, mx = some x → ∃ v, vmx = some v ∧ TR P J B βs obs w x v)
    (he : (evSlice Γ own vw wr t x lo hi mx obs).To (tv, obs')) : Gives P J B βs obs wr w (Instr.sliceAt t v vlo vhi vmx) tv obs' := by
  have hL : ∀ {a : Int}, lowOf lo = some a → (vlo = none ∧ a = 0) ∨ ∃ k, vlo = some (.int k a) := fun ha => by
    rcases bound_low hlo hlon ha with ⟨_, h1, h2⟩ | h1
    · exact .inl ⟨h1, h2⟩
    · exact .inr h1
  have hH : ∀ {len b : Int}, highOf len hi = some b → (vhi = none ∧ b = len) ∨ ∃ k, vhi = some (.int k b) := fun hb => by
    rcases bound_high hhi hhin hb with ⟨_, h1, h2⟩ | h1
    · exact .inl ⟨h1, h2⟩
    · exact .inr h1
  unfold evSlice at he
  split at he
  · rename_i hk
    rw [hmx rfl]
    split at he
    · rename_i s
      obtain rfl := rdv_str hx
      split at he
      · rename_i a b ea eb
        obtain ⟨r, hr, he⟩ := Res.to_bind he
        obtain ⟨rfl, rfl⟩ := Res.to_nowV he
        obtain ⟨h0, h1, h2, rfl⟩ := sub?_some hr
        exact Gives.now h (run_cut_string (hΓ.str hk) s h0 h1 h2 vlo vhi (hL ea) (hH eb)) (mk_str _)
      · exact (Res.to_fail he).elim
    · exact (Res.to_fail he).elim
  · rename_i e hk
    rw [hmx rfl]
    obtain ⟨el, hu, hE⟩ := hΓ.slice hk
    split at he
    · rename_i k l
      split at he
      · rename_i l' hc
        split at he
        · rename_i a b ea eb
          obtain ⟨r, hr, he⟩ := Res.to_bind he
          obtain ⟨rfl, rfl⟩ := Res.to_nowV he
          obtain ⟨v', h1, h2⟩ := cut_of hu hE (RdV.cast hx hc) hr vlo vhi (hL ea) (hH eb)
          exact Gives.now h h1 h2
        · exact (Res.to_fail he).elim
      · exact (Res.to_fail he).elim
    · rename_i L
      obtain ⟨hLb, rfl⟩ := hx
      have hob := h.obs.rep L hLb
      split at he
      · rename_i e' l ho
        split at he
        · rename_i l' hc
          split at he
          · rename_i a b ea eb
            obtain ⟨r, hr, he⟩ := Res.to_bind he
            obtain ⟨rfl, rfl⟩ := Res.to_nowV he
            rw [ho] at hob
            obtain ⟨v', h1, h2⟩ := cut_of hu hE (RdV.cast hob hc) hr vlo vhi (hL ea) (hH eb)
            exact Gives.now h h1 h2
          · exact (Res.to_fail he).elim
        · exact (Res.to_fail he).elim
      · rename_i e' l ho
        have hLo : L < obs.length := getOb_lt ho rfl
        split at he
        · rename_i l' hc
          split at he
          · rename_i a b ea eb
            split at he
            · rename_i hw
              obtain ⟨r, hr, he⟩ := Res.to_bind he
              obtain ⟨rfl, rfl⟩ := Res.to_nowV he
              obtain ⟨rfl, hll⟩ := cast_slice hc
              obtain rfl : l = l' := hll
              obtain ⟨h0, h1, h2, rfl⟩ := cut?_some hr
              rw [ho] at hob
              have hlr : ((l.take b.toNat).drop a.toNat).length = b.toNat - a.toNat := by rw [List.length_drop, List.length_take]; omega
              have hLown : ∀ q, bOf (bv βs L) = some q → (Own βs obs q ∧ ¬ Own βs (obs.set L .dead) q) ∧ q < w.heap.size := fun q hq => by
                have q1 : Own βs obs q := ⟨L, hLb, by rw [ho]; rfl, hq⟩
                refine ⟨⟨q1, ?_⟩, (h.own q q1).2⟩
                rintro ⟨M, hM, q2, q3⟩
                rw [getOb_set hLo] at q2
                by_cases e : L = M
                · rw [if_pos e] at q2; cases q2
                · rw [if_neg e] at q2
                  exact e (h.inj L M q hLb hM (by rw [ho]; rfl) q2 hq q3)
              rcases hob with ⟨hv, rfl⟩ | ⟨b', off, cap, c, tt, fr, hv, q2, q3, q4, q5, q6⟩
              · rw [hv]
                have ha : a = 0 := by simp at h2; omega
                have hb : b = 0 := by simp at h2; omega
                subst ha; subst hb
                refine Gives.label h (v := .slice none 0 0) (w' := w) (by simpa using run_cut_slice (P := P) (w := w) hu hE none 0 0 (Nat.le_refl _) (a := 0) (b := 0) (by omega) (by omega) (by omega) vlo vhi (hL ea) (by simpa [len] using hH eb)) (h.fresh (v := .slice none 0 0) (.inr ⟨L, hLo, hw, rfl⟩) rfl rfl rfl (Nat.le_refl _) (fun _ _ _ => rfl) (fun _ _ _ => rfl) (fun q _ hq => by cases hq) (fun _ => .inl ⟨rfl, by simp⟩))
              · rw [hv] at hLown ⊢
                have hq := hLown b' rfl
                have hrun := run_cut_slice (P := P) (w := w) hu hE (some ⟨b', off, none⟩) l.length cap q5 h0 h1 h2 vlo vhi (hL ea) (hH eb)
                by_cases hcap : cap = a.toNat
                · rw [if_pos hcap] at hrun
                  have hz : b.toNat - a.toNat = 0 := by omega
                  have hz' : cap - a.toNat = 0 := by omega
                  have hnil : (l.take b.toNat).drop a.toNat = [] := List.eq_nil_of_length_eq_zero (by omega)
                  refine Gives.label h hrun (h.fresh (.inr ⟨L, hLo, hw, rfl⟩) rfl rfl rfl (Nat.le_refl _) (fun _ _ _ => rfl) (fun _ _ _ => rfl) (fun q _ hq' => ?_) (fun hF => .inr ⟨b', off, 0, c, tt, fr, ?_, q2, q3, by omega, by rw [hnil]; exact Nat.le_refl _, fun i hi => by rw [hnil] at hi; cases hi⟩))
                  · cases hq'; exact ⟨.inr hq.1, hq.2⟩
                  · rw [hnil, hz, hz']; rfl
                · rw [if_neg hcap] at hrun
                  simp only [Option.map_some, Addr.add_mid] at hrun
                  refine Gives.label h hrun (h.fresh (.inr ⟨L, hLo, hw, rfl⟩) rfl rfl rfl (Nat.le_refl _) (fun _ _ _ => rfl) (fun _ _ _ => rfl) (fun q _ hq' => ?_) (fun hF => .inr ⟨b', off + a.toNat * e'.sz, cap - a.toNat, c, tt, fr, ?_, q2, q3, ?_, by omega, fun i hi => ?_⟩))
                  · cases hq'; exact ⟨.inr hq.1, hq.2⟩
                  · rw [hlr]
                  · have : a.toNat * e'.sz + (cap - a.toNat) * e'.sz = cap * e'.sz := by rw [← Nat.add_mul]; congr 1; omega
                    omega
                  · obtain ⟨cs, c1, c2, c3⟩ := q6 (a.toNat + i) (by omega)
                    refine ⟨cs, c1, fun j hj => ?_, ?_⟩
                    · rw [← c2 j hj, Nat.add_mul]; congr 1; omega
                    · have : ((l.take b.toNat).drop a.toNat)[i] = l[a.toNat + i]'(by omega) := by simp
                      rw [this]; exact Rd.mono hF c3
            · rename_i hw
              obtain ⟨r, hr, he⟩ := Res.to_bind he
              obtain ⟨rfl, rfl⟩ := Res.to_nowV he
              obtain ⟨rfl, hll⟩ := cast_slice hc
              obtain rfl : l = l' := hll
              rw [ho] at hob
              have hs : Step B βs obs wr w βs (obs.set L (.frz e' l)) w := h.drop hLo hw rfl (arr_reads hob (fun b hb => Fz.set hLo rfl hb) (fun b hb => h.free hLo (by rw [ho]; rfl) rfl hb))
              have hr' := hs.rep L hLb
              rw [getOb_set hLo, if_pos rfl] at hr'
              obtain ⟨v', h1, h2⟩ := cut_of (w := w) (P := P) hu hE hr' hr vlo vhi (hL ea) (hH eb)
              exact Gives.froze hs h1 h2
            · rename_i hw
              obtain ⟨r, hr, he⟩ := Res.to_bind he
              obtain ⟨rfl, rfl⟩ := Res.to_nowV he
              obtain ⟨rfl, hll⟩ := cast_slice hc
              obtain rfl : l = l' := hll
              obtain ⟨h0, h1, h2, rfl⟩ := cut?_some hr
              rw [ho] at hob
              rcases hob with ⟨hv, rfl⟩ | ⟨b', off, cap, c, tt, fr, hv, q2, q3, q4, q5, q6⟩
              · have ha : a = 0 := by simp at h2; omega
                have hb : b = 0 := by simp at h2; omega
                subst ha; subst hb
                rw [hv]
                exact Gives.now h (v := .slice none 0 0) (by simpa using run_cut_slice (P := P) (w := w) hu hE none 0 0 (Nat.le_refl _) (a := 0) (b := 0) (by omega) (by omega) (by omega) vlo vhi (hL ea) (by simpa [len] using hH eb)) ⟨hLb, by omega, by omega, .inl ⟨hv, rfl, rfl⟩⟩
              · have hrun := run_cut_slice (P := P) (w := w) hu hE (some ⟨b', off, none⟩) l.length cap q5 h0 h1 h2 vlo vhi (hL ea) (hH eb)
                rw [← hv] at hrun
                refine Gives.now h hrun ⟨hLb, h0, h1, .inr ⟨b', off, l.length, cap, hv, h2, q5, ?_⟩⟩
                by_cases hcap : cap = a.toNat
                · rw [if_pos hcap, if_pos hcap]
                · rw [if_neg hcap, if_neg hcap]
                  simp only [Option.map_some, Addr.add_mid]
            · exact (Res.to_fail he).elim
          · exact (Res.to_fail he).elim
        · exact (Res.to_fail he).elim
      · exact (Res.to_fail he).elim
    · split at he
      · rename_i e' a b ea eb
        obtain ⟨r, hr, he⟩ := Res.to_bind he
        obtain ⟨rfl, rfl⟩ := Res.to_nowV he
        obtain rfl : v = .slice none 0 0 := hx
        obtain ⟨h0, h1, h2, _⟩ := cut?_some hr
        have h2 : b ≤ 0 := by simpa using h2
        obtain rfl : a = 0 := by omega
        obtain rfl : b = 0 := by omega
        exact Gives.now h (v := .slice none 0 0) (by simpa using run_cut_slice (P := P) (w := w) hu hE none 0 0 (Nat.le_refl _) (a := 0) (b := 0) (by omega) (by omega) (by omega) vlo vhi (hL ea) (hH eb)) rfl
      · exact (Res.to_fail he).elim
    · exact (Res.to_fail he).elim
  · rename_i km m e hk
    obtain ⟨el, hu, hE⟩ := hΓ.slice hk
    obtain ⟨vm, rfl, hvm⟩ := hmx' _ rfl
    obtain rfl := rdv_int hvm
    split at he
    · rename_i k l
      split at he
      · rename_i l' a kb b hc ea
        obtain ⟨_, hm, he⟩ := Res.to_bind he
        obtain ⟨_, hb, he⟩ := Res.to_bind he
        obtain ⟨r, hr, he⟩ := Res.to_bind he
        obtain ⟨rfl, rfl⟩ := Res.to_nowV he
        obtain ⟨vh, rfl, hvh⟩ := hhi _ rfl
        obtain rfl := rdv_int hvh
        have m1 := inb_some hm
        have m2 := inb_some hb
        unfold inc at m1 m2
        have hlen : len l' = (l'.length : Int) := rfl
        rw [hlen] at m1
        obtain ⟨v', h1, h2⟩ := cut_of3 (m := m) hu hE (RdV.cast hx hc) hr (by omega) (by omega) vlo kb km (hL ea)
        exact Gives.now h h1 h2
      · exact (Res.to_fail he).elim
    · exact (Res.to_fail he).elim
  · exact (Res.to_fail he).elim

end Go.Proofs.YtbliiipcjbmbiaaGreatDoor.Ev
