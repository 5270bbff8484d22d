/- A part of a small evaluator of the program's own code over plain data, or of the plain laws behind it (this session's own). No condition but those in the statements. -/
import Derived.Test.YtbliiipcjbmbiaaGreatDoorEvO
import Derived.Lib.ConvBytes
import Derived.Test.YtbliiipcjbmbiaaGreatDoorEvN
import Derived.Test.YtbliiipcjbmbiaaGreatDoorEvW
import Derived.Maps.RangeRun
namespace Go.Proofs.YtbliiipcjbmbiaaGreatDoor.Ev
open Go.RowKit
set_option linter.unusedVariables false
set_option linter.unusedSimpArgs false

variable {P : Program} {J : Inv} {Γ : Ctx} {B : Base} {C : LBase} {βs : List Value} {st : St} {a : Act} {w : World} {obs obs' : List Ob} {wr : Nat → Bool} {tv : TV}
variable (hΓ : CtxOK P J Γ) (h : Rep' P J B βs obs w)

theorem strOf_eq (l : List Int) : strOf l = strOfNums l := by
  unfold strOf strOfNums
  rfl

include hΓ h in
theorem evConvert_ok {s d : Nat} {x : TV} {v : Value} (hx : TR P J B βs obs w x v) (he : (evConvert Γ s d x obs).To (tv, obs')) : Gives P J B βs obs wr w (convert s d v) tv obs' := by
  unfold evConvert at he
  split at he
  · rename_i j k hs hd
    split at he
    · rename_i j' n
      obtain rfl := rdv_int hx
      obtain ⟨rfl, rfl⟩ := Res.to_nowV he
      exact Gives.now h (v := .int k (iwr k n)) (by simp [convert, run_underlying (hΓ.int hs), run_underlying (hΓ.int hd), Conv.intToInt, iwr]) (mk_int _ _)
    · exact (Res.to_fail he).elim
  · rename_i hs hd
    split at he
    · rename_i s'
      obtain rfl := rdv_str hx
      obtain ⟨rfl, rfl⟩ := Res.to_nowV he
      exact Gives.now h (v := .string s') (by simp [convert, run_underlying (hΓ.str hs), run_underlying (hΓ.str hd)]) (mk_str _)
    · exact (Res.to_fail he).elim
  · rename_i hs hd
    obtain ⟨el, hu, hE⟩ := hΓ.slice hs
    have hue : P.underlying el = some (.int .u8) := hE.sc
    split at he
    · rename_i l hl
      obtain ⟨rfl, rfl⟩ := Res.to_nowV he
      obtain ⟨A, c, rfl, hc, hrow⟩ := rdv_slice (toVal_rep h.obs hx hl)
      rcases hrow with rfl | ⟨ad, rfl, hF, hcs⟩
      · refine Gives.now h (v := .string (strOf [])) ?_ (mk_str _)
        rw [strOf_eq, run_convert_bytes_string w s d el A _ c hu hue (hΓ.str hd)]
        cases A with
        | none => simp [Conv.bytesToString, strOfNums]; rfl
        | some ad => simp [Conv.bytesToString, loadCells, loadCellsFrom, strOfNums]; rfl
      · have hcell : ∀ (i : Nat) (hi : i < l.length), w.cell? (ad.add i) = some (.int .u8 (l[i])) := fun i hi => by
          obtain ⟨cs, c1, c2, c3⟩ := hcs i hi
          have c3 : cs = [.int .u8 l[i]] := c3
          have := c2 0 (by decide)
          rw [c3] at this
          simpa [Kd.sz] using this
        have hlc := run_loadCells_list (P := P) w ad (l.map (Value.int .u8)) (fun j v hj => by
          rw [List.getElem?_map] at hj
          have hjl : j < l.length := by
            rcases Nat.lt_or_ge j l.length with q | q
            · exact q
            · rw [List.getElem?_eq_none q] at hj; cases hj
          rw [List.getElem?_eq_getElem hjl] at hj
          rw [hcell j hjl]; exact hj)
        rw [List.length_map] at hlc
        refine Gives.now h (v := .string (strOf l)) ?_ (mk_str _)
        rw [strOf_eq, run_convert_bytes_string w s d el (some ad) _ c hu hue (hΓ.str hd), run_bytesToString w ad l.length c l hlc, foldl_push_bytes]
        congr 2
        simp [strOfNums]
    · exact (Res.to_fail he).elim
  · rename_i hs hd
    split at he
    · rename_i t
      obtain rfl := rdv_str hx
      obtain ⟨l, hl, he⟩ := Res.to_bind he
      obtain ⟨rfl, rfl⟩ := Res.to_nowV he
      obtain ⟨hlim, rfl⟩ := app?_some hl
      obtain ⟨el, hu, hE⟩ := hΓ.slice hd
      have hue : P.underlying el = some (.int .u8) := hE.sc
      have hlen : (bytesOf t).length = t.size := by simp [bytesOf]
      have hrun := Lib.run_convert_string_bytes (P := P) w s d el t (hΓ.str hs) hu hue
      have hcap := grownCap_ge w t.size 0 el
      have hcs : (Lib.bytesCells w el t).size = grownCap w t.size 0 el := by
        simp [Lib.bytesCells]
        have : t.data.size = t.size := rfl
        omega
      refine Gives.label h hrun (h.fresh (.inl rfl) rfl rfl rfl (by rw [Lib.bytesWorld_size]; omega) (fun b hb _ => Lib.bytesWorld_at_old w el t b hb) (fun b hb _ => Lib.bytesWorld_at_old w el t b hb) (fun b _ hb => ?_)
        (fun hF => .inr ⟨w.heap.size, 0, grownCap w t.size 0 el, Lib.bytesCells w el t, el, ((Lib.bytesCells w el t).size, (Lib.bytesCells w el t).size + 1), by rw [List.nil_append, hlen], Lib.bytesWorld_at_new w el t, fun o ho => ?_, by rw [hcs]; simp [Kd.sz], by rw [List.nil_append, hlen]; exact hcap, fun i hi => ?_⟩))
      · cases hb
        exact ⟨.inl (Nat.le_refl _), by rw [Lib.bytesWorld_size]; show w.heap.size < _; omega⟩
      · have ho : o < (Lib.bytesCells w el t).size := ho
        simp; omega
      · rw [List.nil_append, hlen] at hi
        refine ⟨[.int .u8 ((bytesOf t)[i]'(by rw [hlen]; exact hi))], rfl, fun j hj => ?_, by simp only [List.nil_append]; rfl⟩
        have : j = 0 := by simp [Kd.sz] at hj; omega
        subst this
        have hd' : i < t.data.size := hi
        simp [Lib.bytesCells, Kd.sz, bytesOf, Array.getElem?_append]
        rw [if_pos hi, Array.getElem?_eq_getElem hd']
        rfl
    · exact (Res.to_fail he).elim
  · exact (Res.to_fail he).elim

end Go.Proofs.YtbliiipcjbmbiaaGreatDoor.Ev

namespace Go.Proofs.YtbliiipcjbmbiaaGreatDoor.Ev
open Go.RowKit
set_option linter.unusedVariables false
set_option linter.unusedSimpArgs false

variable {P : Program} {J : Inv} {Γ : Ctx} {B : Base} {C : LBase} {βs : List Value} {st : St} {a : Act} {w : World} {obs obs' : List Ob} {wr : Nat → Bool} {tv : TV}
variable (hΓ : CtxOK P J Γ) (h : Rep' P J B βs obs w)

/-- slots and the values in them -/

def Drops (obs obs1 : List Ob) : Prop := obs1.length = obs.length ∧ ∀ M, getOb obs1 M = getOb obs M ∨ getOb obs1 M = .dead
theorem Drops.own {obs1 : List Ob} (h : Drops obs obs1) {b : Nat} (hb : Own βs obs1 b) : Own βs obs b := by
  obtain ⟨M, hM, h1, h2⟩ := hb
  rcases h.2 M with h3 | h3
  · rw [h3] at h1; exact ⟨M, hM, h1, h2⟩
  · rw [h3] at h1; cases h1

theorem moved_ok (h0 : Rep' P J B βs obs w) : ∀ {ps : List Pm} {tvs : List TV} {vals : List Value} {obs1 obs2 : List Ob}, Drops obs obs1 → (∀ b, Own βs obs1 b → Own βs obs b) → moved wr ps tvs obs1 = some obs2 → TVs P J B βs obs w tvs vals →
    (∀ M, M < obs.length → wr M = false → getOb obs1 M = getOb obs M) →
    Drops obs obs2 ∧ (∀ M, M < obs.length → wr M = false → getOb obs2 M = getOb obs M) ∧ (ownBs ps vals).Nodup ∧ (∀ b ∈ ownBs ps vals, Own βs obs1 b ∧ ¬ Own βs obs2 b) ∧ (∀ b, Own βs obs2 b → Own βs obs1 b) ∧ Drops obs1 obs2
  | [], [], vals, obs1, obs2, hd, ho, hm, ht, hw => by
    cases hm
    exact ⟨hd, hw, by simp [ownBs], by simp [ownBs], fun _ h => h, rfl, fun _ => .inl rfl⟩
  | .own e :: ps, tv :: tvs, vals, obs1, obs2, hd, ho, hm, ht, hw => by
    obtain ⟨v, r, rfl, hv, hr⟩ := ht
    simp only [moved] at hm
    split at hm
    · rename_i L
      split at hm
      · rename_i e' l hob hwr
        have hL : L < obs1.length := getOb_lt hob rfl
        have hLb : L < βs.length := by rw [h0.obs.len, ← hd.1]; exact hL
        have hd' : Drops obs (obs1.set L .dead) := ⟨by simpa using hd.1, fun M => by
          rw [getOb_set hL]
          by_cases q : L = M
          · rw [if_pos q]; exact .inr rfl
          · rw [if_neg q]; exact hd.2 M⟩
        have hdd : Drops obs1 (obs1.set L .dead) := ⟨by simp, fun M => by
          rw [getOb_set hL]
          by_cases q : L = M
          · rw [if_pos q]; exact .inr rfl
          · rw [if_neg q]; exact .inl rfl⟩
        obtain ⟨g1, g2, g3, g4, g5, g6⟩ := moved_ok h0 hd' (fun b hb => ho b (hdd.own hb)) hm hr (fun M hM hwM => by
          rw [getOb_set hL, if_neg]
          · exact hw M hM hwM
          · rintro rfl; rw [hwr] at hwM; cases hwM)
        have hvb : v = bv βs L := hv.2
        have hobs : getOb obs L = .arr e' l := by
          rcases hd.2 L with q | q
          · rw [← q]; exact hob
          · rw [q] at hob; cases hob
        have hno : ∀ b, bOf v = some b → Own βs obs1 b ∧ ¬ Own βs (obs1.set L .dead) b := fun b hb => by
          refine ⟨⟨L, hLb, by rw [hob]; rfl, by rw [← hvb]; exact hb⟩, ?_⟩
          rintro ⟨M, hM, q1, q2⟩
          rw [getOb_set hL] at q1
          by_cases q : L = M
          · rw [if_pos q] at q1; cases q1
          · rw [if_neg q] at q1
            have q3 : (getOb obs M).live = true := by
              rcases hd.2 M with q' | q'
              · rw [← q']; exact q1
              · rw [q'] at q1; cases q1
            exact q (h0.inj L M b hLb hM (by rw [hobs]; rfl) q3 (by rw [← hvb]; exact hb) q2)
        refine ⟨g1, g2, ?_, ?_, fun b hb => hdd.own (g5 b hb), ⟨g6.1.trans hdd.1, fun M => ?_⟩⟩
        · show ((bOf v).toList ++ ownBs ps r).Nodup
          cases hbv : bOf v with
          | none => simpa using g3
          | some b =>
            simp only [Option.toList_some, List.singleton_append, List.nodup_cons]
            exact ⟨fun hb => (hno b hbv).2 (g4 b hb).1, g3⟩
        · intro b hb
          rcases List.mem_append.1 (show b ∈ (bOf v).toList ++ ownBs ps r from hb) with hb | hb
          · have := hno b (by simpa using hb)
            exact ⟨this.1, fun q => this.2 (g5 b q)⟩
          · exact ⟨hdd.own (g4 b hb).1, (g4 b hb).2⟩
        · rcases g6.2 M with q | q
          · rw [q]; exact hdd.2 M
          · exact .inr q
      · cases hm
    · have := moved_ok h0 hd ho hm hr hw
      have hvn : v = .slice none 0 0 := hv
      subst hvn
      simpa [ownBs, bOf] using this
    · have := moved_ok h0 hd ho hm hr hw
      have hvn : v = .slice none 0 0 := hv
      subst hvn
      simpa [ownBs, bOf] using this
    · cases hm
  | .val k :: ps, tv :: tvs, vals, obs1, obs2, hd, ho, hm, ht, hw => by
    obtain ⟨v, r, rfl, hv, hr⟩ := ht
    have hm : moved wr ps tvs obs1 = some obs2 := hm
    exact moved_ok (ps := ps) (tvs := tvs) (vals := r) h0 hd ho hm hr hw
  | .rptr k :: ps, tv :: tvs, vals, obs1, obs2, hd, ho, hm, ht, hw => by
    obtain ⟨v, r, rfl, hv, hr⟩ := ht
    have hm : moved wr ps tvs obs1 = some obs2 := hm
    exact moved_ok (ps := ps) (tvs := tvs) (vals := r) h0 hd ho hm hr hw
  | .fnv _ _ :: ps, tv :: tvs, vals, obs1, obs2, hd, ho, hm, ht, hw => by
    obtain ⟨v, r, rfl, hv, hr⟩ := ht
    have hm : moved wr ps tvs obs1 = some obs2 := hm
    exact moved_ok (ps := ps) (tvs := tvs) (vals := r) h0 hd ho hm hr hw
  | .nil _ :: ps, tv :: tvs, vals, obs1, obs2, hd, ho, hm, ht, hw => by
    obtain ⟨v, r, rfl, hv, hr⟩ := ht
    have hm : moved wr ps tvs obs1 = some obs2 := hm
    exact moved_ok (ps := ps) (tvs := tvs) (vals := r) h0 hd ho hm hr hw
  | [], _ :: _, _, _, _, _, _, hm, _, _ => by simp [moved] at hm
  | .nil _ :: _, [], _, _, _, _, _, hm, _, _ => by simp [moved] at hm
  | .own _ :: _, [], _, _, _, _, _, hm, _, _ => by simp [moved] at hm
  | .val _ :: _, [], _, _, _, _, _, hm, _, _ => by simp [moved] at hm
  | .rptr _ :: _, [], _, _, _, _, _, hm, _, _ => by simp [moved] at hm
  | .fnv _ _ :: _, [], _, _, _, _, _, hm, _, _ => by simp [moved] at hm

/-- what is lent: only freezing -/
theorem lent_rel : ∀ {ps : List Pm} {tvs : List TV} {obs1 obs2 : List Ob}, lent wr ps tvs obs1 = some obs2 → FrzRel obs1 obs2 ∧ (∀ M, wr M = false → getOb obs2 M = getOb obs1 M) := by
  have f1 : ∀ {tv : TV} {o1 o2 : List Ob}, frz1 wr tv o1 = some o2 → ∀ M, wr M = false → getOb o2 M = getOb o1 M := by
    intro tv o1 o2 hf M hM
    cases tv with
    | arr L =>
      simp only [frz1] at hf
      split at hf
      · rename_i e l ho
        split at hf
        · rename_i hw
          cases hf
          rw [getOb_set (getOb_lt ho rfl), if_neg]
          rintro rfl; rw [hw] at hM; cases hM
        · cases hf
      · cases hf; rfl
    | map L =>
      simp only [frz1] at hf
      split at hf
      · rename_i kk kv m ho
        split at hf
        · rename_i hw
          cases hf
          rw [getOb_set (getOb_lt ho rfl), if_neg]
          rintro rfl; rw [hw] at hM; cases hM
        · cases hf
      · cases hf; rfl
    | _ => simp only [frz1] at hf; cases hf; rfl
  have fA : ∀ {l : List TV} {o1 o2 : List Ob}, frzAll wr l o1 = some o2 → ∀ M, wr M = false → getOb o2 M = getOb o1 M := by
    intro l
    induction l with
    | nil => intro o1 o2 hf M _; cases hf; rfl
    | cons c cs ih =>
      intro o1 o2 hf M hM
      simp only [frzAll] at hf
      split at hf
      · rename_i o ho
        rw [ih hf M hM, f1 ho M hM]
      · cases hf
  intro ps
  induction ps with
  | nil => intro tvs obs1 obs2 hf; simp only [lent] at hf; cases hf; exact ⟨FrzRel.refl _, fun _ _ => rfl⟩
  | cons p ps ih =>
    intro tvs obs1 obs2 hf
    cases tvs with
    | nil => cases p <;> simp only [lent] at hf <;> cases hf <;> exact ⟨FrzRel.refl _, fun _ _ => rfl⟩
    | cons tv tvs =>
      cases p with
      | val k =>
        simp only [lent] at hf
        split at hf
        · rename_i o ho
          obtain ⟨g1, g2⟩ := ih hf
          exact ⟨(frz1_rel ho).1.trans g1, fun M hM => (g2 M hM).trans (f1 ho M hM)⟩
        · cases hf
      | rptr k =>
        cases tv with
        | ptr L off =>
          simp only [lent] at hf
          split at hf
          · split at hf
            · rename_i o ho
              obtain ⟨g1, g2⟩ := ih hf
              exact ⟨(frzAll_rel ho).1.trans g1, fun M hM => (g2 M hM).trans (fA ho M hM)⟩
            · cases hf
          · cases hf
        | _ => simp only [lent] at hf; exact ih hf
      | own e => simp only [lent] at hf; exact ih hf
      | fnv a r => simp only [lent] at hf; exact ih hf
      | nil e => simp only [lent] at hf; exact ih hf

end Go.Proofs.YtbliiipcjbmbiaaGreatDoor.Ev

namespace Go.Proofs.YtbliiipcjbmbiaaGreatDoor.Ev
open Go.RowKit
set_option linter.unusedVariables false
set_option linter.unusedSimpArgs false

variable {P : Program} {J : Inv} {Γ : Ctx} {B : Base} {C : LBase} {βs : List Value} {st : St} {a : Act} {w : World} {obs obs' obs1 obs2 : List Ob} {wr : Nat → Bool} {tv : TV}

theorem Drops.live {M : Nat} (hd : Drops obs obs1) (h : getOb obs1 M ≠ .dead) : getOb obs1 M = getOb obs M := (hd.2 M).resolve_right h

/-- what a callee may read: what is nobody's own, and what is lent -/
def CF (B : Base) (βs : List Value) (obs obs1 obs2 : List Ob) (flat : Bool) (w : World) (b : Nat) : Prop := Fz B βs obs w b ∨ (Own βs obs1 b ∧ (flat = true ∨ ¬ Own βs obs2 b))

/-- plain data out of slots, where what is own is read, too -/
theorem toVal_S (h : Rep' P J B βs obs w) (hd : Drops obs obs1) {k : Kd} {v : Value} {x : k.T} {F' : Nat → Prop} (hF : ∀ b, Fz B βs obs w b → F' b) (ht : TR P J B βs obs w tv v) (hx : toVal k tv obs1 = some x)
    (ho : ∀ L b, ((tv = .arr L ∧ ∃ e l, getOb obs1 L = .arr e l) ∨ (tv = .map L ∧ ∃ kk kv m, getOb obs1 L = .map kk kv m)) → bOf (bv βs L) = some b → F' b) : RdV w F' k v x := by
  have hF' : ∀ b, Fz B βs obs w b → F' b ∧ w.heap[b]? = w.heap[b]? := fun b hb => ⟨hF b hb, rfl⟩
  cases tv with
  | cst vs => rw [show v = _ from ht]; exact constV_rep hx
  | val k' y => exact RdV.castW (RdV.mono hF' ht) hx
  | nil =>
    cases k <;> simp only [toVal] at hx <;> cases hx
    · rw [show v = _ from ht]; exact nil_reads _
    · rw [show v = _ from ht]; exact nil_readsO _
  | nilk e =>
    rw [show v = _ from ht]
    exact RdV.castW (nil_reads e) hx
  | arr L =>
    obtain ⟨hL, rfl⟩ := ht
    have hr := h.obs.rep L hL
    simp only [toVal] at hx
    split at hx
    · rename_i e l hob
      rw [← hd.live (by rw [hob]; exact fun q => by cases q), hob] at hr
      exact RdV.cast (arr_reads hr hF (fun b hb => ho L b (.inl ⟨rfl, e, l, hob⟩) hb)) hx
    · rename_i e l hob
      rw [← hd.live (by rw [hob]; exact fun q => by cases q), hob] at hr
      exact RdV.cast (RdV.mono hF' hr) hx
    · cases hx
  | map L =>
    obtain ⟨hL, rfl⟩ := ht
    have hr := h.obs.rep L hL
    simp only [toVal] at hx
    split at hx
    · rename_i kk kv m hob
      rw [← hd.live (by rw [hob]; exact fun q => by cases q), hob] at hr
      exact RdV.cast (map_reads hr hF (fun b hb => ho L b (.inr ⟨rfl, kk, kv, m, hob⟩) hb)) hx
    · rename_i kk kv m hob
      rw [← hd.live (by rw [hob]; exact fun q => by cases q), hob] at hr
      exact RdV.cast (RdV.mono hF' hr) hx
    · cases hx
  | ptr L off =>
    cases k with
    | optr =>
      simp only [toVal] at hx
      cases hx
      exact ptr_val ht
    | _ => simp [toVal] at hx
  | _ => simp [toVal] at hx

/-- the address of a variable's part, or of what is only read, handed on -/
theorem gatherPtr_rep (h : Rep' P J B βs obs w) (hd : Drops obs obs1) {k : Kd} {v : Value} {x : k.T} {F' S' : Nat → Prop} (hF : ∀ b, Fz B βs obs w b → F' b) (hS : ∀ b, B.S b → S' b) (ht : TR P J B βs obs w tv v)
    (hx : gatherPtr k tv obs1 = some x) (hbox : ∀ L off b, tv = .ptr L off → (getOb obs1 L).live = true → bOf (bv βs L) = some b → S' b)
    (hleaf : ∀ L off cs, tv = .ptr L off → getOb obs1 L = .box cs → ∀ c ∈ cs, ∀ (k' : Kd) (v : Value) (y : k'.T), RVRep w (Fz B βs obs w) βs c v → toVal k' c.tv obs1 = some y → RdV w F' k' v y) :
    TVRep P J w F' S' [] (.rop k x) v := by
  cases tv with
  | rop k' y =>
    obtain ⟨rfl, rfl⟩ := Kd.cast_some hx
    obtain ⟨ad, rfl, h2, cs, h3, h4, h5⟩ := ht
    exact ⟨ad, rfl, h2.imp (hF _) (hS _), cs, h3, h4, Rd.mono (fun b hb => ⟨hF b hb, rfl⟩) h5⟩
  | ptr L off =>
    obtain ⟨hL, b, hbv, rfl⟩ := ht
    simp only [gatherPtr] at hx
    split at hx
    · rename_i cs hob
      split at hx
      · rename_i y rest hg
        cases hx
        have hr := h.obs.rep L hL
        have hob' : getOb obs L = .box cs := by rw [← hd.live (by rw [hob]; exact fun q => by cases q), hob]
        rw [hob'] at hr
        obtain ⟨b', c, ty, fr, q1, q2, q3, q4, q5⟩ := hr
        rw [hbv] at q1
        cases q1
        have hlr : LeafRep w (Fz B βs obs w) βs (cs.drop off) (c.toList.drop off) := by
          refine ⟨by rw [List.length_drop, List.length_drop, Array.length_toList (xs := c), q4], fun i e1 e2 => ?_⟩
          simp only [List.getElem_drop]
          have hi : off + i < cs.length := by rw [List.length_drop] at e1; omega
          have hi' : off + i < c.size := by omega
          have := q5 (off + i) hi
          simpa [hi'] using this
        obtain ⟨g1, _, g3⟩ := gather_gen hg hlr (fun r hr => hleaf L off cs rfl hob r (List.drop_subset _ _ (List.take_subset _ _ hr)))
        rw [List.length_drop] at g1
        refine ⟨_, rfl, .inr (hbox L off b rfl (by rw [hob]; rfl) (by rw [hbv]; rfl)), (c.toList.drop off).take k.sz, by rw [List.length_take, List.length_drop, Array.length_toList]; omega, fun j hj => ?_, g3⟩
        rw [Addr.add_mid, cell_of q2, List.getElem?_take, if_pos hj, List.getElem?_drop, Array.getElem?_toList]
      · cases hx
    · cases hx
  | _ => simp [gatherPtr] at hx

/-- captured variables -/
theorem capArgs_rep (h : Rep' P J B βs obs w) (hd : Drops obs obs1) {F' S' : Nat → Prop} (hF : ∀ b, Fz B βs obs w b → F' b) (hS : ∀ b, B.S b → S' b) (hFS : ∀ L b, (getOb obs1 L).live = true → L < βs.length → bOf (bv βs L) = some b → F' b ∧ S' b) :
    ∀ {ps : List Pm} {caps : List Nat} {xs : PT ps}, capArgs ps caps obs1 = some xs → (∀ L ∈ caps, L < βs.length ∧ ∃ b, bv βs L = .pointer (some ⟨b, 0, none⟩)) →
    ArgsRep P J w F' S' ps xs (caps.map (bv βs)) ∧ ownBs ps (caps.map (bv βs)) = []
  | [], [], xs, _, _ => ⟨rfl, rfl⟩
  | .rptr k :: ps, L :: Ls, xs, hc, hL => by
    simp only [capArgs] at hc
    split at hc
    · rename_i x xs' hx hxs
      cases hc
      obtain ⟨g1, g2⟩ := capArgs_rep h hd hF hS hFS hxs (fun M hM => hL M (List.mem_cons_of_mem _ hM))
      obtain ⟨h1, b, h2⟩ := hL L (List.mem_cons_self ..)
      refine ⟨⟨_, _, rfl, ?_, g1⟩, g2⟩
      refine gatherPtr_rep (tv := .ptr L 0) h hd hF hS ⟨h1, b, h2, h2⟩ hx (fun M off b' e hl hb => ?_) (fun M off cs e hob c hc k' v y hr hy => ?_)
      · cases e; exact (hFS L b' hl h1 hb).2
      · refine toVal_S h hd hF (RVRep.toTV hr) hy (fun N b' hN hb => ?_)
        have hl : (getOb obs1 N).live = true := by
          rcases hN with ⟨_, e, l, q⟩ | ⟨_, kk, kv, m, q⟩ <;> rw [q] <;> rfl
        exact (hFS N b' hl (by rw [h.obs.len, ← hd.1]; exact getOb_live_lt hl) hb).1
    · cases hc
  | [], _ :: _, _, hc, _ => by simp [capArgs] at hc
  | .val _ :: _, _, _, hc, _ => by simp [capArgs] at hc
  | .own _ :: _, _, _, hc, _ => by simp [capArgs] at hc
  | .fnv _ _ :: _, _, _, hc, _ => by simp [capArgs] at hc
  | .nil _ :: _, _, _, hc, _ => by simp [capArgs] at hc
  | .rptr _ :: _, [], _, hc, _ => by simp [capArgs] at hc

theorem TVRep.ropMono {F F' S S' : Nat → Prop} {w' : World} {k : Kd} {x : k.T} {v : Value} (h : TVRep P J w F S [] (.rop k x) v) (hF : ∀ b, F b → F' b ∧ w'.heap[b]? = w.heap[b]?) (hS : ∀ b, S b → S' b ∧ w'.heap[b]? = w.heap[b]?) : TVRep P J w' F' S' [] (.rop k x) v := by
  obtain ⟨ad, h1, h2, cs, h3, h4, h5⟩ := h
  refine ⟨ad, h1, h2.imp (fun q => (hF _ q).1) (fun q => (hS _ q).1), cs, h3, fun j hj => ?_, Rd.mono hF h5⟩
  rw [← h4 j hj]
  exact World.cell?_of_block (w := w) (by rw [add_block]; exact h2.elim (fun q => (hF _ q).2) (fun q => (hS _ q).2))
theorem ArgsRep.capMono {F F' S S' : Nat → Prop} {w' : World} (hF : ∀ b, F b → F' b ∧ w'.heap[b]? = w.heap[b]?) (hS : ∀ b, S b → S' b ∧ w'.heap[b]? = w.heap[b]?) :
    ∀ {ps : List Pm} {caps : List Nat} {xs : PT ps} {vs : List Value}, capArgs ps caps obs1 = some xs → ArgsRep P J w F S ps xs vs → ArgsRep P J w' F' S' ps xs vs
  | [], [], _, _, _, h => h
  | .rptr k :: ps, L :: Ls, xs, vs, hc, ⟨v, r, e, h1, h2⟩ => by
    simp only [capArgs] at hc
    split at hc
    · rename_i x xs' hx hxs
      cases hc
      exact ⟨v, r, e, TVRep.ropMono (P := P) (J := J) h1 hF hS, ArgsRep.capMono hF hS hxs h2⟩
    · cases hc
  | [], _ :: _, _, _, hc, _ => by simp [capArgs] at hc
  | .val _ :: _, _, _, _, hc, _ => by simp [capArgs] at hc
  | .own _ :: _, _, _, _, hc, _ => by simp [capArgs] at hc
  | .fnv _ _ :: _, _, _, _, hc, _ => by simp [capArgs] at hc
  | .nil _ :: _, _, _, _, hc, _ => by simp [capArgs] at hc
  | .rptr _ :: _, [], _, _, hc, _ => by simp [capArgs] at hc

/-- a closure as a function -/
theorem cloFn_rep (h : Rep' P J B βs obs w) (hd : Drops obs obs1) {S' : Nat → Prop} (hS : ∀ b, B.S b → S' b) (hFz : ∀ b, Fz B βs obs w b → S' b) (hSz : ∀ b, S' b → b < w.heap.size)
    (hFS : ∀ L b, (getOb obs1 L).live = true → L < βs.length → bOf (bv βs L) = some b → S' b)
    {g k : Nat} {F : Fn} (hg : FnOK P J g F) {caps : List Nat} (hcaps : ∀ L ∈ caps, L < βs.length ∧ ∃ b, bv βs L = .pointer (some ⟨b, 0, none⟩)) {a r : Kd} (hr : r.flat = true) {f : a.T → Option r.T}
    (hf : cloFn k F caps obs1 a r = some f) : FnvRep P J w S' a r f (.func (.func g) #[] (caps.map (bv βs)).toArray) := by
  obtain ⟨ps, rs, ff⟩ := F
  refine ⟨hr, g, _, rfl, hg.enters, fun w' hI hgz hsz hsame F1 x vs y hF1 hargs hy => ?_⟩
  have hok := hg.ok k
  -- what the closure's call is
  have B2 : (⟨w', fun _ => False, fun b => b < w'.heap.size⟩ : Base).Ok J := ⟨fun b hb => ⟨hb, fun q => q⟩, hI, hgz, fun _ _ q => q⟩
  have post : ∀ {rr : Kd} {yy : rr.T} {e : Ending} {w'' : World}, rr.flat = true → Post ⟨w', fun _ => False, fun b => b < w'.heap.size⟩ [.val rr] yy e w'' → ∃ v, e = .returned v ∧ RdV w'' (fun _ => False) rr v yy ∧ Below w'.heap.size w' w'' := by
    rintro rr yy e w'' hflat ⟨vs', he, ⟨v, hv, hr'⟩, _, _, hext⟩
    subst hv
    exact ⟨v, he, RdV.flat_ hflat hr', hext.os, hext.tape, hext.output, hext.size, fun b hb => hext.block b hb (fun q => q)⟩
  have capr : ∀ {ps' : List Pm} {cs : PT ps'}, capArgs ps' caps obs1 = some cs → ArgsRep P J w' (fun b => b < w'.heap.size) (Base.S ⟨w', fun _ => False, fun b => b < w'.heap.size⟩) ps' cs (caps.map (bv βs)) ∧ ownBs ps' (caps.map (bv βs)) = [] := by
    intro ps' cs hcs
    obtain ⟨g1, g2⟩ := capArgs_rep (F' := S') (S' := S') h hd hFz hS (fun L b h1 h2 h3 => ⟨hFS L b h1 h2 h3, hFS L b h1 h2 h3⟩) hcs hcaps
    exact ⟨ArgsRep.capMono (fun b hb => ⟨Nat.lt_of_lt_of_le (hSz b hb) hsz, hsame b hb⟩) (fun b hb => ⟨⟨Nat.lt_of_lt_of_le (hSz b hb) hsz, fun q => q⟩, hsame b hb⟩) hcs g1, g2⟩
  have cast1 : ∀ {p : Kd} {v : Value} {z : p.T}, RdV w' F1 p v z → RdV w' (fun b => b < w'.heap.size) p v z := fun hz => RdV.mono (fun b hb => ⟨hF1 b hb, rfl⟩) hz
  unfold cloFn at hf
  simp only at hf
  split at hf
  · rename_i r' ff'
    split at hf
    · rename_i hrr _
      subst hrr
      split at hf
      · rename_i p ps' ff''
        split at hf
        · rename_i ha hpv _
          subst ha
          split at hf
          · rename_i cs hcs
            cases hf
            obtain ⟨g1, g2⟩ := capr hcs
            have hone : ∃ v, vs = [v] ∧ RdV w' F1 a v x := by
              cases a with
              | pair p q => cases hpv
              | _ => exact hargs
            obtain ⟨v, rfl, hv⟩ := hone
            have := hok ⟨w', fun _ => False, fun b => b < w'.heap.size⟩ (v :: caps.map (bv βs)) (x, cs) y B2 ⟨v, _, rfl, cast1 hv, g1⟩ (by simp only [ownBs, g2]; exact List.nodup_nil) (by intro b hb; simp only [ownBs, g2] at hb; cases hb) hy
            refine Calls.mono (by simpa using this) fun e w'' hp => post hr hp
          · cases hf
        · split at hf
          · rename_i q ps'' ff3 _ _
            split at hf
            · rename_i ha _
              subst ha
              split at hf
              · rename_i cs hcs
                cases hf
                obtain ⟨g1, g2⟩ := capr hcs
                obtain ⟨v1, v2, rfl, hv1, hv2⟩ := hargs
                have := hok ⟨w', fun _ => False, fun b => b < w'.heap.size⟩ (v1 :: v2 :: caps.map (bv βs)) (x.1, x.2, cs) y B2 ⟨v1, _, rfl, cast1 hv1, v2, _, rfl, cast1 hv2, g1⟩ (by simp only [ownBs, g2]; exact List.nodup_nil) (by intro b hb; simp only [ownBs, g2] at hb; cases hb) hy
                refine Calls.mono (by simpa using this) fun e w'' hp => post hr hp
              · cases hf
            · cases hf
          · cases hf
      · cases hf
    · cases hf
  · cases hf

end Go.Proofs.YtbliiipcjbmbiaaGreatDoor.Ev

namespace Go.Proofs.YtbliiipcjbmbiaaGreatDoor.Ev
open Go.RowKit
set_option linter.unusedVariables false
set_option linter.unusedSimpArgs false

variable {P : Program} {J : Inv} {Γ : Ctx} {B : Base} {C : LBase} {βs : List Value} {st : St} {a : Act} {w : World} {obs obs' obs1 obs2 : List Ob} {wr : Nat → Bool} {tv : TV}

theorem FnvRep.sub {S S' : Nat → Prop} {a r : Kd} {f : a.T → Option r.T} {v : Value} (h : FnvRep P J w S a r f v) (hS : ∀ b, S b → S' b) : FnvRep P J w S' a r f v := by
  obtain ⟨h1, g, caps, h2, h2', h3⟩ := h
  exact ⟨h1, g, caps, h2, h2', fun w2 hI hg hs2 hF => h3 w2 hI hg hs2 fun b hb => hF b (hS b hb)⟩

/-- one argument -/
theorem argOf_rep (hΓ : CtxOK P J Γ) (h : Rep' P J B βs obs w) (hd : Drops obs obs1) (hrel : FrzRel obs1 obs2) {flat : Bool} {S' : Nat → Prop} (hS : ∀ b, B.S b → S' b) (hFz : ∀ b, Fz B βs obs w b → S' b) (hSz : ∀ b, S' b → b < w.heap.size)
    (hFS : ∀ b, Own βs obs1 b → S' b) {k : Nat} {p : Pm} {v : Value} {x : p.T} (ht : TR P J B βs obs w tv v) (hx : argOf Γ k p tv obs obs1 = some x)
    (hst : flat = true ∨ ((∀ k, p = .val k → Still tv obs2) ∧ ∀ k L off cs, p = .rptr k → tv = .ptr L off → getOb obs1 L = .box cs → ∀ c ∈ cs, Still c.tv obs2)) :
    ArgRep P J w (CF B βs obs obs1 obs2 flat w) S' p x v := by
  have hownL : ∀ L b, (getOb obs1 L).live = true → bOf (bv βs L) = some b → Own βs obs1 b := fun L b hl hb => ⟨L, by rw [h.obs.len, ← hd.1]; exact getOb_live_lt hl, hl, hb⟩
  have hnot : ∀ (tv : TV), Still tv obs2 → ∀ L b, ((tv = .arr L ∧ ∃ e l, getOb obs1 L = .arr e l) ∨ (tv = .map L ∧ ∃ kk kv m, getOb obs1 L = .map kk kv m)) → bOf (bv βs L) = some b → Own βs obs1 b ∧ ¬ Own βs obs2 b := by
    rintro tv hstill L b hL hb
    have hl : (getOb obs1 L).live = true := by
      rcases hL with ⟨_, e, l, q⟩ | ⟨_, kk, kv, m, q⟩ <;> rw [q] <;> rfl
    refine ⟨hownL L b hl hb, ?_⟩
    rintro ⟨M, hM, m1, m2⟩
    have q1 : (getOb obs1 M).live = true := by
      rcases hrel.2 M with q | ⟨e, l, q1, q2⟩ | ⟨kk, kv, m, q1, q2⟩
      · rw [← q]; exact m1
      · rw [q1]; rfl
      · rw [q1]; rfl
    have q2 : ∀ {N}, (getOb obs1 N).live = true → (getOb obs N).live = true := fun {N} hn => by
      rw [← hd.live (fun e => by rw [e] at hn; cases hn)]; exact hn
    have hLb : L < βs.length := by rw [h.obs.len, ← hd.1]; exact getOb_live_lt hl
    have e := h.inj L M b hLb hM (q2 hl) (q2 q1) hb m2
    subst e
    rcases hrel.2 L with q | ⟨e, l, q1, q2⟩ | ⟨kk, kv, m, q1, q2⟩
    · rcases hL with ⟨hL, e, l, ho⟩ | ⟨hL, kk, kv, m, ho⟩
      · exact (hstill L).1 hL e l (q.trans ho)
      · exact (hstill L).2 hL kk kv m (q.trans ho)
    · rw [q2] at m1; cases m1
    · rw [q2] at m1; cases m1
  have hFc : ∀ b, Fz B βs obs w b → CF B βs obs obs1 obs2 flat w b := fun b hb => .inl hb
  cases p with
  | val k =>
    refine toVal_S h hd hFc ht hx (fun L b hL hb => ?_)
    rcases hst with rfl | hst
    · have hl : (getOb obs1 L).live = true := by
        rcases hL with ⟨_, e, l, q⟩ | ⟨_, kk, kv, m, q⟩ <;> rw [q] <;> rfl
      exact .inr ⟨hownL L b hl hb, .inl rfl⟩
    · have := hnot tv (hst.1 k rfl) L b hL hb
      exact .inr ⟨this.1, .inr this.2⟩
  | own e =>
    show ObRep w _ [] v (.arr e x)
    simp only [argOf] at hx
    split at hx
    · rename_i L
      split at hx
      · rename_i e' l ho
        obtain ⟨rfl, hll⟩ := cast_slice hx
        obtain rfl : l = x := hll
        obtain ⟨hL, rfl⟩ := ht
        have hr := h.obs.rep L hL
        rw [ho] at hr
        rcases hr with q | ⟨b, off, cap, c, tt, fr, q1, q2, q3, q4, q5, q6⟩
        · exact .inl q
        · refine .inr ⟨b, off, cap, c, tt, fr, q1, q2, q3, q4, q5, fun i hi => ?_⟩
          obtain ⟨cs, c1, c2, c3⟩ := q6 i hi
          exact ⟨cs, c1, c2, Rd.mono (fun b hb => ⟨hFc b hb, rfl⟩) c3⟩
      · cases hx
    · cases hx; exact .inl ⟨ht, rfl⟩
    · cases hx; exact .inl ⟨ht, rfl⟩
    · cases hx
  | rptr k =>
    refine gatherPtr_rep h hd hFc hS ht hx (fun L off b e hl hb => hFS b (hownL L b hl hb)) (fun L off cs e hob c hc k' v' y hr hy => ?_)
    refine toVal_S h hd hFc (RVRep.toTV hr) hy (fun N b hN hb => ?_)
    rcases hst with rfl | hst
    · have hl : (getOb obs1 N).live = true := by
        rcases hN with ⟨_, e, l, q⟩ | ⟨_, kk, kv, m, q⟩ <;> rw [q] <;> rfl
      exact .inr ⟨hownL N b hl hb, .inl rfl⟩
    · have := hnot c.tv (hst.2 k L off cs rfl e hob c hc) N b hN hb
      exact .inr ⟨this.1, .inr this.2⟩
  | nil e =>
    show v = _
    simp only [argOf] at hx
    split at hx
    · exact ht
    · exact ht
    · cases hx
  | fnv a r =>
    show FnvRep P J w S' a r x v
    simp only [argOf] at hx
    split at hx
    · rename_i a' r' f
      split at hx
      · rename_i ha hr _ _
        subst ha
        subst hr
        cases hx
        exact FnvRep.sub ht hS
      · cases hx
    · rename_i g caps
      split at hx
      · rename_i hflat
        split at hx
        · rename_i F hg
          obtain ⟨h1, rfl⟩ := ht
          exact cloFn_rep h hd hS hFz hSz (fun L b h1 _ h3 => hFS b (hownL L b h1 h3)) (hΓ.fn _ _ hg) h1 hflat hx
        · cases hx
      · cases hx
    · cases hx

theorem argsOf_rep (hΓ : CtxOK P J Γ) (h : Rep' P J B βs obs w) (hd : Drops obs obs1) (hrel : FrzRel obs1 obs2) {flat : Bool} {S' : Nat → Prop} (hS : ∀ b, B.S b → S' b) (hFz : ∀ b, Fz B βs obs w b → S' b) (hSz : ∀ b, S' b → b < w.heap.size)
    (hFS : ∀ b, Own βs obs1 b → S' b) {k : Nat} : ∀ {ps : List Pm} {tvs : List TV} {vals : List Value} {xs : PT ps}, TVs P J B βs obs w tvs vals → argsOf Γ k ps tvs obs obs1 = some xs →
    (flat = true ∨ ∃ o1, FrzRel obs1 o1 ∧ lent wr ps tvs o1 = some obs2) → ArgsRep P J w (CF B βs obs obs1 obs2 flat w) S' ps xs vals
  | [], [], vals, xs, ht, _, _ => ht
  | p :: ps, tv :: tvs, vals, xs, ht, hx, hl => by
    obtain ⟨v, r, rfl, hv, hr⟩ := ht
    simp only [argsOf] at hx
    split at hx
    · rename_i x xs' hx1 hx2
      cases hx
      have both : (flat = true ∨ ((∀ k, p = .val k → Still tv obs2) ∧ ∀ k L off cs, p = .rptr k → tv = .ptr L off → getOb obs1 L = .box cs → ∀ c ∈ cs, Still c.tv obs2)) ∧ (flat = true ∨ ∃ o1, FrzRel obs1 o1 ∧ lent wr ps tvs o1 = some obs2) := by
        rcases hl with rfl | ⟨o1, ho1, hl⟩
        · exact ⟨.inl rfl, .inl rfl⟩
        · cases p with
          | val k =>
            simp only [lent] at hl
            split at hl
            · rename_i o2 hf
              obtain ⟨g1, g2⟩ := frz1_rel hf
              obtain ⟨k1, _⟩ := lent_rel hl
              exact ⟨.inr ⟨fun _ _ => g2.mono k1, fun _ _ _ _ q => by cases q⟩, .inr ⟨o2, ho1.trans g1, hl⟩⟩
            · cases hl
          | own e =>
            simp only [lent] at hl
            exact ⟨.inr ⟨fun _ q => (by cases q), fun _ _ _ _ q => (by cases q)⟩, .inr ⟨o1, ho1, hl⟩⟩
          | nil e =>
            simp only [lent] at hl
            exact ⟨.inr ⟨fun _ q => (by cases q), fun _ _ _ _ q => (by cases q)⟩, .inr ⟨o1, ho1, hl⟩⟩
          | fnv a r =>
            simp only [lent] at hl
            exact ⟨.inr ⟨fun _ q => (by cases q), fun _ _ _ _ q => (by cases q)⟩, .inr ⟨o1, ho1, hl⟩⟩
          | rptr k =>
            cases tv with
            | ptr L off =>
              simp only [lent] at hl
              split at hl
              · rename_i cs hob
                split at hl
                · rename_i o2 hf
                  obtain ⟨g1, g2⟩ := frzAll_rel hf
                  obtain ⟨k1, _⟩ := lent_rel hl
                  refine ⟨.inr ⟨fun _ q => (by cases q), fun _ L' off' cs' _ e hob' c hc => ?_⟩, .inr ⟨o2, ho1.trans g1, hl⟩⟩
                  cases e
                  have : cs' = cs := by
                    rcases ho1.2 L with q | ⟨e, l, q1, q2⟩ | ⟨kk, kv, m, q1, q2⟩
                    · rw [q, hob'] at hob; cases hob; rfl
                    · rw [q2] at hob; cases hob
                    · rw [q2] at hob; cases hob
                  subst this
                  exact (g2 _ (List.mem_map.2 ⟨c, hc, rfl⟩)).mono k1
                · cases hl
              · cases hl
            | _ =>
              simp only [lent] at hl
              exact ⟨.inr ⟨fun _ q => (by cases q), fun _ _ _ _ _ q => (by cases q)⟩, .inr ⟨o1, ho1, hl⟩⟩
      exact ⟨v, r, rfl, argOf_rep hΓ h hd hrel hS hFz hSz hFS hv hx1 both.1, argsOf_rep hΓ h hd hrel hS hFz hSz hFS hr hx2 both.2⟩
    · cases hx
  | [], _ :: _, _, _, _, hx, _ => by simp [argsOf] at hx
  | _ :: _, [], _, _, _, hx, _ => by simp [argsOf] at hx

/-! ### the results -/
def ownObs : (rs : List Lm) → OT rs → List Ob
  | [], _ => []
  | [.val _], _ => []
  | [.own e], l => [.arr e l]
  | .val _ :: p :: os, y => ownObs (p :: os) y.2
  | .own e :: p :: os, y => .arr e y.1 :: ownObs (p :: os) y.2
def ownVals : List Lm → List Value → List Value
  | .own _ :: rs, v :: vs => v :: ownVals rs vs
  | .val _ :: rs, _ :: vs => ownVals rs vs
  | _, _ => []
theorem back_obs : ∀ (rs : List Lm) (y : OT rs) (obs : List Ob), (back rs y obs).2 = obs ++ ownObs rs y
  | [], _, obs => by simp [back, ownObs]
  | [.val _], _, obs => by simp [back, oneBack, ownObs]
  | [.own e], l, obs => by simp [back, oneBack, ownObs]
  | .val _ :: p :: os, y, obs => by
    have := back_obs (p :: os) y.2 obs
    simp only [back, oneBack, ownObs]
    exact this
  | .own e :: p :: os, y, obs => by
    have := back_obs (p :: os) y.2 (obs ++ [.arr e y.1])
    simp only [back, oneBack, ownObs]
    rw [this, List.append_assoc]; rfl
theorem ownRs_vals : ∀ (rs : List Lm) (vs : List Value), ownRs rs vs = (ownVals rs vs).flatMap fun v => (bOf v).toList
  | [], _ => rfl
  | .val _ :: rs, [] => rfl
  | .own _ :: rs, [] => rfl
  | .val _ :: rs, v :: vs => by simp only [ownRs, ownVals]; exact ownRs_vals rs vs
  | .own _ :: rs, v :: vs => by simp only [ownRs, ownVals, List.flatMap_cons]; rw [ownRs_vals rs vs]
/-- each own result is the array that it is said to be -/
theorem ownObs_rep {F : Nat → Prop} : ∀ {rs : List Lm} {y : OT rs} {vs : List Value}, RetsRep w F rs y vs → (ownObs rs y).length = (ownVals rs vs).length ∧
    ∀ (i : Nat) (h1 : i < (ownObs rs y).length) (h2 : i < (ownVals rs vs).length), ∃ e l, (ownObs rs y)[i] = .arr e l ∧ ObRep w F [] (ownVals rs vs)[i] (.arr e l)
  | [], y, vs, h => ⟨by rw [show vs = _ from h]; rfl, fun i h1 => by cases h1⟩
  | [.val _], y, _, ⟨v, rfl, h⟩ => ⟨rfl, fun i h1 => by cases h1⟩
  | [.own e], y, _, ⟨v, rfl, h⟩ => ⟨rfl, fun i h1 h2 => by
    have : i = 0 := by simp [ownObs] at h1; omega
    subst this
    exact ⟨e, y, rfl, h⟩⟩
  | .val _ :: p :: os, y, _, ⟨v, r, rfl, h1, h2⟩ => by
    have := ownObs_rep h2
    simpa only [ownObs, ownVals] using this
  | .own e :: p :: os, y, _, ⟨v, r, rfl, h1, h2⟩ => by
    obtain ⟨g1, g2⟩ := ownObs_rep h2
    refine ⟨by simp only [ownObs, ownVals, List.length_cons, g1], fun i q1 q2 => ?_⟩
    cases i with
    | zero => exact ⟨e, y.1, rfl, h1⟩
    | succ i =>
      simp only [ownObs, ownVals, List.getElem_cons_succ]
      exact g2 i (by simpa [ownObs] using q1) (by simpa [ownVals] using q2)
/-- the slots of the results -/
theorem back_rep {F F' : Nat → Prop} (hF : ∀ b, F b → F' b) : ∀ {rs : List Lm} {y : OT rs} {vs : List Value} {obs : List Ob} {βs βf : List Value}, RetsRep w F rs y vs → (∀ o ∈ rs, o.flat = true ∨ ∀ b, F b → F' b) → βs.length = obs.length →
    (∀ i, βs.length + i < (βs ++ ownVals rs vs).length → bv βf (βs.length + i) = (ownVals rs vs).getD i undef) → (βs ++ ownVals rs vs).length ≤ βf.length →
    (back rs y obs).1.length = vs.length ∧ ∀ (i : Nat) (h1 : i < (back rs y obs).1.length) (h2 : i < vs.length), RVRep w F' βf (back rs y obs).1[i] vs[i]
  | [], y, vs, obs, βs, βf, h, _, _, _, _ => ⟨by rw [show vs = _ from h]; rfl, fun i h1 => by cases h1⟩
  | [.val k], y, _, obs, βs, βf, ⟨v, rfl, h⟩, _, _, _, _ => ⟨rfl, fun i h1 h2 => by
    have : i = 0 := by simp at h2; omega
    subst this
    exact RdV.mono (fun b hb => ⟨hF b hb, rfl⟩) h⟩
  | [.own e], y, _, obs, βs, βf, ⟨v, rfl, h⟩, _, hl, hb, hle => ⟨rfl, fun i h1 h2 => by
    have : i = 0 := by simp at h2; omega
    subst this
    have := hb 0 (by simp [ownVals])
    refine ⟨by simp [ownVals] at hle; omega, ?_⟩
    rw [Nat.add_zero, hl] at this
    rw [this]; rfl⟩
  | .val k :: p :: os, y, _, obs, βs, βf, ⟨v, r, rfl, h1, h2⟩, hfl, hl, hb, hle => by
    obtain ⟨g1, g2⟩ := back_rep hF h2 (fun o ho => hfl o (List.mem_cons_of_mem _ ho)) hl hb hle
    refine ⟨by simp only [back, oneBack, List.length_cons]; omega, fun i q1 q2 => ?_⟩
    cases i with
    | zero => exact RdV.mono (fun b hb => ⟨hF b hb, rfl⟩) h1
    | succ i => exact g2 i (by simpa [back, oneBack] using q1) (by simpa using q2)
  | .own e :: p :: os, y, _, obs, βs, βf, ⟨v, r, rfl, h1, h2⟩, hfl, hl, hb, hle => by
    have hb0 := hb 0 (by simp [ownVals])
    obtain ⟨g1, g2⟩ := back_rep (obs := obs ++ [.arr e y.1]) (βs := βs ++ [v]) (βf := βf) hF h2 (fun o ho => hfl o (List.mem_cons_of_mem _ ho)) (by simp [hl]) (fun i hi => by
      have := hb (i + 1) (by simp [ownVals] at hi ⊢; omega)
      rw [List.length_append, List.length_singleton, Nat.add_assoc, Nat.add_comm 1 i, this]
      simp [ownVals]) (by simpa [ownVals] using hle)
    refine ⟨by simp only [back, oneBack, List.length_cons]; omega, fun i q1 q2 => ?_⟩
    cases i with
    | zero =>
      refine ⟨by simp [ownVals] at hle; omega, ?_⟩
      rw [Nat.add_zero, hl] at hb0
      rw [hb0]; rfl
    | succ i => exact g2 i (by simpa [back, oneBack] using q1) (by simpa using q2)

end Go.Proofs.YtbliiipcjbmbiaaGreatDoor.Ev

namespace Go.Proofs.YtbliiipcjbmbiaaGreatDoor.Ev
open Go.RowKit
set_option linter.unusedVariables false
set_option linter.unusedSimpArgs false

variable {P : Program} {J : Inv} {Γ : Ctx} {B : Base} {C : LBase} {βs : List Value} {st : St} {a : Act} {w w' : World} {obs obs' obs1 obs2 : List Ob} {wr : Nat → Bool} {tv : TV}

theorem getOb_app (obs news : List Ob) (M : Nat) : getOb (obs ++ news) M = if M < obs.length then getOb obs M else getOb news (M - obs.length) := by
  unfold getOb
  simp only [List.getD_eq_getElem?_getD, List.getElem?_append]
  split <;> rfl
theorem bv_app (βs vs : List Value) (M : Nat) : bv (βs ++ vs) M = if M < βs.length then bv βs M else bv vs (M - βs.length) := by
  unfold bv
  simp only [List.getD_eq_getElem?_getD, List.getElem?_append]
  split <;> rfl

/-- the state behind a call -/
theorem Rep'.called (h : Rep' P J B βs obs w) (hd : Drops obs obs1) (hrel : FrzRel obs1 obs2) (hlock : ∀ M, M < obs.length → wr M = false → getOb obs2 M = getOb obs M)
    {gs : List Nat} (hgs : ∀ b ∈ gs, Own βs obs b ∧ ¬ Own βs obs1 b)
    (hos : w'.os = w.os) (htp : w'.tape = w.tape) (hout : w'.output = w.output) (hsz : w.heap.size ≤ w'.heap.size) (hblk : ∀ b, b < w.heap.size → b ∉ gs → w'.heap[b]? = w.heap[b]?)
    {vs : List Value} {news : List Ob} (hlen : news.length = vs.length) (hnd : (vs.flatMap fun v => (bOf v).toList).Nodup) (hvb : ∀ b ∈ (vs.flatMap fun v => (bOf v).toList), (w.heap.size ≤ b ∨ b ∈ gs) ∧ b < w'.heap.size)
    {F' : Nat → Prop} (hnew : ∀ (i : Nat) (h1 : i < news.length) (h2 : i < vs.length), ∃ e l, news[i] = .arr e l ∧ ObRep w' F' [] vs[i] (.arr e l))
    (hF' : ∀ b, F' b → (Fz B βs obs w b ∨ (Own βs obs1 b ∧ ¬ Own βs obs2 b) ∨ ((w.heap.size ≤ b ∨ b ∈ gs) ∧ b < w'.heap.size ∧ b ∉ (vs.flatMap fun v => (bOf v).toList))) ) :
    Step B βs obs wr w (βs ++ vs) (obs2 ++ news) w' ∧ ∀ b, F' b → Fz B (βs ++ vs) (obs2 ++ news) w' b := by
  have hl := h.obs.len
  have hl1 := hd.1
  have hl2 := hrel.1
  have hlb : βs.length = obs2.length := by omega
  have live21 : ∀ {M}, (getOb obs2 M).live = true → getOb obs2 M = getOb obs1 M := fun {M} hm => by
    rcases hrel.2 M with q | ⟨e, l, q1, q2⟩ | ⟨kk, kv, m, q1, q2⟩
    · exact q
    · rw [q2] at hm; cases hm
    · rw [q2] at hm; cases hm
  have live10 : ∀ {M}, (getOb obs1 M).live = true → getOb obs1 M = getOb obs M := fun {M} hm => hd.live (fun e => by rw [e] at hm; cases hm)
  have own21 : ∀ {b}, Own βs obs2 b → Own βs obs1 b := by
    rintro b ⟨M, hM, m1, m2⟩
    exact ⟨M, hM, by rw [← live21 m1]; exact m1, m2⟩
  have own10 : ∀ {b}, Own βs obs1 b → Own βs obs b := fun hb => hd.own hb
  have hown' : ∀ {b}, Own (βs ++ vs) (obs2 ++ news) b → Own βs obs2 b ∨ b ∈ (vs.flatMap fun v => (bOf v).toList) := by
    rintro b ⟨M, hM, m1, m2⟩
    rw [getOb_app] at m1
    rw [bv_app] at m2
    by_cases q : M < βs.length
    · rw [if_pos (by omega)] at m1; rw [if_pos q] at m2
      exact .inl ⟨M, q, m1, m2⟩
    · rw [if_neg q] at m2
      right
      rw [List.length_append] at hM
      have hi : M - βs.length < vs.length := by omega
      refine List.mem_flatMap.2 ⟨vs[M - βs.length], List.getElem_mem hi, ?_⟩
      have : bv vs (M - βs.length) = vs[M - βs.length] := by
        unfold bv; rw [List.getD_eq_getElem?_getD, List.getElem?_eq_getElem hi]; rfl
      rw [this] at m2
      rw [m2]; simp
  have hgown : ∀ {b}, b ∈ gs → Own βs obs b := fun hb => (hgs _ hb).1
  have hF : ∀ b, Fz B βs obs w b → Fz B (βs ++ vs) (obs2 ++ news) w' b ∧ w'.heap[b]? = w.heap[b]? := fun b hb => by
    have h1 := h.notOwn hb
    refine ⟨?_, hblk b h1.1 (fun hg => h1.2 (hgown hg))⟩
    rcases hb with hb | hb
    · exact .inl hb
    · refine .inr ⟨hb.1, Nat.lt_of_lt_of_le hb.2.1 hsz, fun hn => ?_⟩
      rcases hown' hn with q | q
      · exact hb.2.2 (own10 (own21 q))
      · rcases (hvb b q).1 with q1 | q1
        · omega
        · exact hb.2.2 (hgown q1)
  have hFF : ∀ b, F' b → Fz B (βs ++ vs) (obs2 ++ news) w' b := fun b hb => by
    rcases hF' b hb with q | q | q
    · exact (hF b q).1
    · have q1 := h.own b (own10 q.1)
      refine .inr ⟨q1.1, Nat.lt_of_lt_of_le q1.2 hsz, fun hn => ?_⟩
      rcases hown' hn with q2 | q2
      · exact q.2 q2
      · rcases (hvb b q2).1 with q3 | q3
        · omega
        · exact (hgs b q3).2 q.1
    · refine .inr ⟨?_, q.2.1, fun hn => ?_⟩
      · rcases q.1 with q1 | q1
        · exact .inl (Nat.le_trans h.base q1)
        · exact (h.own b (hgown q1)).1
      · rcases hown' hn with q2 | q2
        · rcases q.1 with q1 | q1
          · have := (h.own b (own10 (own21 q2))).2; omega
          · exact (hgs b q1).2 (own21 q2)
        · exact q.2.2 q2
  refine ⟨⟨hos, htp, hout, hsz, fun b hb hn => hblk b hb (fun hg => hn (hgown hg)), by simp, fun L hL => by rw [bv_app, if_pos hL], by simp [hlb, hlen], fun b hb => ?_, fun M M' b hM hM' e1 e2 e3 e4 => ?_, fun M hM hw => ?_, fun M hM => ?_⟩, hFF⟩
  · rcases hown' hb with q | q
    · exact ⟨.inl (own10 (own21 q)), Nat.lt_of_lt_of_le (h.own b (own10 (own21 q))).2 hsz⟩
    · refine ⟨?_, (hvb b q).2⟩
      rcases (hvb b q).1 with q1 | q1
      · exact .inr q1
      · exact .inl (hgown q1)
  · rw [getOb_app] at e1 e2
    rw [bv_app] at e3 e4
    rw [List.length_append] at hM hM'
    have memv : ∀ {N}, ¬ N < βs.length → N < βs.length + vs.length → bOf (bv vs (N - βs.length)) = some b → b ∈ (vs.flatMap fun v => (bOf v).toList) := fun {N} h1 h2 h3 => by
      have hi : N - βs.length < vs.length := by omega
      have : bv vs (N - βs.length) = vs[N - βs.length] := by
        unfold bv; rw [List.getD_eq_getElem?_getD, List.getElem?_eq_getElem hi]; rfl
      rw [this] at h3
      exact List.mem_flatMap.2 ⟨_, List.getElem_mem hi, by rw [h3]; simp⟩
    have clash : ∀ {N}, N < βs.length → (getOb obs2 N).live = true → bOf (bv βs N) = some b → b ∈ (vs.flatMap fun v => (bOf v).toList) → False := fun {N} h1 h2 h3 h4 => by
      have q : Own βs obs2 b := ⟨N, h1, h2, h3⟩
      rcases (hvb b h4).1 with q1 | q1
      · have := (h.own b (own10 (own21 q))).2; omega
      · exact (hgs b q1).2 (own21 q)
    by_cases q : M < βs.length <;> by_cases q' : M' < βs.length
    · rw [if_pos (by omega)] at e1 e2; rw [if_pos q] at e3; rw [if_pos q'] at e4
      have l1 : (getOb obs M).live = true := by rw [← live10 (by rw [← live21 e1]; exact e1), ← live21 e1]; exact e1
      have l2 : (getOb obs M').live = true := by rw [← live10 (by rw [← live21 e2]; exact e2), ← live21 e2]; exact e2
      exact h.inj M M' b q q' l1 l2 e3 e4
    · rw [if_pos (by omega)] at e1; rw [if_pos q] at e3; rw [if_neg q'] at e4
      exact (clash q e1 e3 (memv q' hM' e4)).elim
    · rw [if_pos (by omega)] at e2; rw [if_pos q'] at e4; rw [if_neg q] at e3
      exact (clash q' e2 e4 (memv q hM e3)).elim
    · rw [if_neg q] at e3; rw [if_neg q'] at e4
      have nd : ∀ (vs : List Value) (i j : Nat), i < vs.length → j < vs.length → (vs.flatMap fun v => (bOf v).toList).Nodup → bOf (bv vs i) = some b → bOf (bv vs j) = some b → i = j := by
        intro vs
        induction vs with
        | nil => intro i j hi; cases hi
        | cons v vs ih =>
          intro i j hi hj hn h1 h2
          rw [List.flatMap_cons, List.nodup_append] at hn
          have far : ∀ {k}, k < vs.length → bOf (bv vs k) = some b → b ∈ (vs.flatMap fun v => (bOf v).toList) := fun {k} hk hb => by
            have : bv vs k = vs[k] := by unfold bv; rw [List.getD_eq_getElem?_getD, List.getElem?_eq_getElem hk]; rfl
            rw [this] at hb
            exact List.mem_flatMap.2 ⟨_, List.getElem_mem hk, by rw [hb]; simp⟩
          cases i with
          | zero =>
            cases j with
            | zero => rfl
            | succ j =>
              have h1 : bOf v = some b := h1
              have h2 : bOf (bv vs j) = some b := h2
              exact (hn.2.2 b (by rw [h1]; simp) b (far (by simpa using hj) h2) rfl).elim
          | succ i =>
            cases j with
            | zero =>
              have h2 : bOf v = some b := h2
              have h1 : bOf (bv vs i) = some b := h1
              exact (hn.2.2 b (by rw [h2]; simp) b (far (by simpa using hi) h1) rfl).elim
            | succ j => rw [ih i j (by simpa using hi) (by simpa using hj) hn.2.1 h1 h2]
      have := nd vs (M - βs.length) (M' - βs.length) (by omega) (by omega) hnd e3 e4
      omega
  · rw [getOb_app, if_pos (by omega)]
    exact hlock M (by omega) hw
  · rw [getOb_app, bv_app]
    by_cases q : M < βs.length
    · rw [if_pos q, if_pos (by omega)]
      have hr := h.obs.rep M q
      have hbx : ∀ L, L < βs.length → bv (βs ++ vs) L = bv βs L := fun L hL => by rw [bv_app, if_pos hL]
      have hle : βs.length ≤ (βs ++ vs).length := by simp
      have own1 : (getOb obs1 M).live = true → ∀ b, bOf (bv βs M) = some b → w'.heap[b]? = w.heap[b]? := fun hlv b hb => by
        have q1 : Own βs obs1 b := ⟨M, q, hlv, hb⟩
        exact hblk b (h.own b (own10 q1)).2 (fun hg => (hgs b hg).2 q1)
      rcases hrel.2 M with q1 | ⟨e, l, q1, q2⟩ | ⟨kk, kv, m, q1, q2⟩
      · rw [q1]
        rcases hd.2 M with q3 | q3
        · rw [q3]
          exact hr.mono hF hle hbx (fun b hlv hb => own1 (by rw [q3]; exact hlv) b hb)
        · rw [q3]; trivial
      · rw [q2]
        have q3 : getOb obs M = .arr e l := by rw [← live10 (by rw [q1]; rfl), q1]
        rw [q3] at hr
        have hr' := hr.mono (βs' := βs ++ vs) hF hle hbx (fun b _ hb => own1 (by rw [q1]; rfl) b hb)
        refine arr_reads hr' (fun b hb => hb) (fun b hb => ?_)
        have q4 : Own βs obs1 b := ⟨M, q, by rw [q1]; rfl, hb⟩
        have q5 := h.own b (own10 q4)
        refine .inr ⟨q5.1, Nat.lt_of_lt_of_le q5.2 hsz, fun hn => ?_⟩
        rcases hown' hn with q6 | q6
        · obtain ⟨N, hN, n1, n2⟩ := q6
          have l1 : (getOb obs N).live = true := by rw [← live10 (by rw [← live21 n1]; exact n1), ← live21 n1]; exact n1
          have := h.inj M N b q hN (by rw [q3]; rfl) l1 hb n2
          subst this
          rw [q2] at n1; cases n1
        · rcases (hvb b q6).1 with q7 | q7
          · omega
          · exact (hgs b q7).2 q4
      · rw [q2]
        have q3 : getOb obs M = .map kk kv m := by rw [← live10 (by rw [q1]; rfl), q1]
        rw [q3] at hr
        have hr' := hr.mono (βs' := βs ++ vs) hF hle hbx (fun b _ hb => own1 (by rw [q1]; rfl) b hb)
        refine map_reads hr' (fun b hb => hb) (fun b hb => ?_)
        have q4 : Own βs obs1 b := ⟨M, q, by rw [q1]; rfl, hb⟩
        have q5 := h.own b (own10 q4)
        refine .inr ⟨q5.1, Nat.lt_of_lt_of_le q5.2 hsz, fun hn => ?_⟩
        rcases hown' hn with q6 | q6
        · obtain ⟨N, hN, n1, n2⟩ := q6
          have l1 : (getOb obs N).live = true := by rw [← live10 (by rw [← live21 n1]; exact n1), ← live21 n1]; exact n1
          have := h.inj M N b q hN (by rw [q3]; rfl) l1 hb n2
          subst this
          rw [q2] at n1; cases n1
        · rcases (hvb b q6).1 with q7 | q7
          · omega
          · exact (hgs b q7).2 q4
    · rw [if_neg q, if_neg (by omega), ← hlb]
      rw [List.length_append] at hM
      have hi : M - βs.length < vs.length := by omega
      obtain ⟨e, l, n1, n2⟩ := hnew (M - βs.length) (by omega) hi
      have g1 : getOb news (M - βs.length) = .arr e l := by
        unfold getOb; rw [List.getD_eq_getElem?_getD, List.getElem?_eq_getElem (by omega), ← n1]; rfl
      have g2 : bv vs (M - βs.length) = vs[M - βs.length] := by
        unfold bv; rw [List.getD_eq_getElem?_getD, List.getElem?_eq_getElem hi]; rfl
      rw [g1, g2]
      rcases n2 with q1 | ⟨b, off, cap, c, tt, fr, p1, p2, p3, p4, p5, p6⟩
      · exact .inl q1
      · refine .inr ⟨b, off, cap, c, tt, fr, p1, p2, p3, p4, p5, fun i hi => ?_⟩
        obtain ⟨cs, c1, c2, c3⟩ := p6 i hi
        exact ⟨cs, c1, c2, Rd.mono (fun b hb => ⟨hFF b hb, rfl⟩) c3⟩

end Go.Proofs.YtbliiipcjbmbiaaGreatDoor.Ev

namespace Go.Proofs.YtbliiipcjbmbiaaGreatDoor.Ev
open Go.RowKit
set_option linter.unusedVariables false
set_option linter.unusedSimpArgs false

variable {P : Program} {J : Inv} {Γ : Ctx} {B : Base} {C : LBase} {βs : List Value} {st : St} {a : Act} {w w' : World} {obs obs1 obs2 : List Ob} {wr : Nat → Bool}

theorem TVs.append {l1 l2 : List TV} {v1 v2 : List Value} (h1 : TVs P J B βs obs w l1 v1) (h2 : TVs P J B βs obs w l2 v2) : TVs P J B βs obs w (l1 ++ l2) (v1 ++ v2) := by
  induction l1 generalizing v1 with
  | nil =>
    have h1 : v1 = [] := h1
    subst h1; exact h2
  | cons t l ih =>
    obtain ⟨v, r, rfl, a, b⟩ := h1
    exact ⟨v, r ++ v2, rfl, a, ih b⟩

/-! ### what is packed -/
theorem packOne_rep (h : Rep' P J B βs obs w) {s : SV} {tv : TV} {v : Value} {x : s.T} (ht : TR P J B βs obs w tv v) (hx : packOne s tv obs = some x) : PackRep w (Fz B βs obs w) s x v := by
  cases s with
  | val k =>
    simp only [packOne] at hx
    split at hx
    · exact RdV.cast ht hx
    · rw [show v = _ from ht]; exact RdV.cast (nil_reads _) hx
    · cases hx
  | arr e =>
    simp only [packOne] at hx
    split at hx
    · cases hx; exact .inl ⟨ht, rfl⟩
    · rename_i L
      split at hx
      · rename_i e' l ho
        obtain ⟨rfl, hll⟩ := cast_slice hx
        obtain rfl : l = x := hll
        obtain ⟨hL, rfl⟩ := ht
        have hr := h.obs.rep L hL
        rw [ho] at hr
        exact hr
      · cases hx
    · cases hx
  | map kk kv =>
    simp only [packOne] at hx
    split at hx
    · rename_i L
      split at hx
      · rename_i kk' kv' m ho
        obtain ⟨e1, e2⟩ := Kd.cast_some hx
        cases e1
        obtain rfl : m = x := e2
        obtain ⟨hL, rfl⟩ := ht
        have hr := h.obs.rep L hL
        rw [ho] at hr
        exact hr
      · cases hx
    · cases hx
theorem pack_rep (h : Rep' P J B βs obs w) : ∀ {ss : List SV} {tvs : List TV} {vs : List Value} {x : XT ss}, TVs P J B βs obs w tvs vs → pack ss tvs obs = some x → PacksRep w (Fz B βs obs w) ss x vs
  | [], [], vs, x, ht, hx => ht
  | [s], [tv], vs, x, ht, hx => by
    obtain ⟨v, r, rfl, h1, h2⟩ := ht
    have h2 : r = [] := h2
    subst h2
    exact ⟨v, rfl, packOne_rep h h1 hx⟩
  | s :: t :: r, tv :: tvs, vs, x, ht, hx => by
    obtain ⟨v, q, rfl, h1, h2⟩ := ht
    simp only [pack] at hx
    split at hx
    · rename_i y ys hy hys
      cases hx
      exact ⟨v, q, rfl, packOne_rep h h1 hy, pack_rep h h2 hys⟩
    · cases hx
  | [], _ :: _, _, _, _, hx => by simp [pack] at hx
  | [_], [], _, _, _, hx => by simp [pack] at hx
  | _ :: _ :: _, [], _, _, _, hx => by simp [pack] at hx
  | [_], _ :: _ :: _, _, _, _, hx => by simp [pack] at hx

def newOb : (s : SV) → s.T → List Ob
  | .val _, _ => []
  | .arr e, l => [.arr e l]
  | .map kk kv, m => [.map kk kv m]
def newObs : (ss : List SV) → XT ss → List Ob
  | [], _ => []
  | [s], x => newOb s x
  | s :: t :: r, x => newOb s x.1 ++ newObs (t :: r) x.2
theorem unpackOne_obs (s : SV) (x : s.T) (obs : List Ob) : (unpackOne s x obs).2 = obs ++ newOb s x := by
  cases s <;> simp [unpackOne, newOb]
theorem unpack_obs : ∀ (ss : List SV) (x : XT ss) (obs : List Ob), (unpack ss x obs).2 = obs ++ newObs ss x
  | [], _, obs => by simp [unpack, newObs]
  | [s], x, obs => unpackOne_obs s x obs
  | s :: t :: r, x, obs => by
    have h1 := unpackOne_obs s x.1 obs
    have h2 := unpack_obs (t :: r) x.2 (unpackOne s x.1 obs).2
    simp only [unpack, newObs]
    rw [h2, h1, List.append_assoc]

theorem newObs_rep {F : Nat → Prop} : ∀ {ss : List SV} {x : XT ss} {vs : List Value}, PacksRep w F ss x vs → (newObs ss x).length = (newVals ss vs).length ∧
    ∀ (i : Nat) (h1 : i < (newObs ss x).length) (h2 : i < (newVals ss vs).length), (newObs ss x)[i].live = true ∧ ObRep w F [] (newVals ss vs)[i] (newObs ss x)[i]
  | [], x, vs, h => ⟨by rw [show vs = _ from h]; rfl, fun i h1 => by cases h1⟩
  | [.val k], x, _, ⟨v, rfl, h⟩ => ⟨rfl, fun i h1 => by cases h1⟩
  | [.arr e], x, _, ⟨v, rfl, h⟩ => ⟨rfl, fun i h1 h2 => by
    have : i = 0 := by simp [newVals] at h2; omega
    subst this; exact ⟨rfl, h⟩⟩
  | [.map kk kv], x, _, ⟨v, rfl, h⟩ => ⟨rfl, fun i h1 h2 => by
    have : i = 0 := by simp [newVals] at h2; omega
    subst this; exact ⟨rfl, h⟩⟩
  | .val k :: t :: r, x, _, ⟨v, q, rfl, h1, h2⟩ => by
    have := newObs_rep h2
    simpa only [newObs, newOb, newVals, List.nil_append] using this
  | .arr e :: t :: r, x, _, ⟨v, q, rfl, h1, h2⟩ => by
    obtain ⟨g1, g2⟩ := newObs_rep h2
    refine ⟨by simp only [newObs, newOb, newVals, List.singleton_append, List.length_cons, g1], fun i q1 q2 => ?_⟩
    cases i with
    | zero => exact ⟨rfl, h1⟩
    | succ i => exact g2 i (by simpa [newObs, newOb] using q1) (by simpa [newVals] using q2)
  | .map kk kv :: t :: r, x, _, ⟨v, q, rfl, h1, h2⟩ => by
    obtain ⟨g1, g2⟩ := newObs_rep h2
    refine ⟨by simp only [newObs, newOb, newVals, List.singleton_append, List.length_cons, g1], fun i q1 q2 => ?_⟩
    cases i with
    | zero => exact ⟨rfl, h1⟩
    | succ i => exact g2 i (by simpa [newObs, newOb] using q1) (by simpa [newVals] using q2)

theorem unpack_rep {F F' : Nat → Prop} (hF : ∀ b, F b → F' b) : ∀ {ss : List SV} {x : XT ss} {vs : List Value} {obs : List Ob} {βs βf : List Value}, PacksRep w F ss x vs → βs.length = obs.length →
    (∀ i, βs.length + i < (βs ++ newVals ss vs).length → bv βf (βs.length + i) = (newVals ss vs).getD i undef) → (βs ++ newVals ss vs).length ≤ βf.length →
    (unpack ss x obs).1.length = vs.length ∧ ∀ (i : Nat) (h1 : i < (unpack ss x obs).1.length) (h2 : i < vs.length), RVRep w F' βf (unpack ss x obs).1[i] vs[i]
  | [], x, vs, obs, βs, βf, h, _, _, _ => ⟨by rw [show vs = _ from h]; rfl, fun i h1 => by cases h1⟩
  | [s], x, _, obs, βs, βf, ⟨v, rfl, h⟩, hl, hb, hle => by
    refine ⟨rfl, fun i h1 h2 => ?_⟩
    have : i = 0 := by simp at h2; omega
    subst this
    cases s with
    | val k => exact RdV.mono (fun b hb => ⟨hF b hb, rfl⟩) h
    | arr e =>
      have := hb 0 (by simp [newVals])
      refine ⟨by simp [newVals] at hle; omega, ?_⟩
      rw [Nat.add_zero, hl] at this
      rw [this]; rfl
    | map kk kv =>
      have := hb 0 (by simp [newVals])
      refine ⟨by simp [newVals] at hle; omega, ?_⟩
      rw [Nat.add_zero, hl] at this
      rw [this]; rfl
  | .val k :: t :: r, x, _, obs, βs, βf, ⟨v, q, rfl, h1, h2⟩, hl, hb, hle => by
    obtain ⟨g1, g2⟩ := unpack_rep hF h2 hl hb hle
    refine ⟨by simp only [unpack, unpackOne, List.length_cons]; omega, fun i q1 q2 => ?_⟩
    cases i with
    | zero => exact RdV.mono (fun b hb => ⟨hF b hb, rfl⟩) h1
    | succ i => exact g2 i (by simpa [unpack, unpackOne] using q1) (by simpa using q2)
  | .arr e :: t :: r, x, _, obs, βs, βf, ⟨v, q, rfl, h1, h2⟩, hl, hb, hle => by
    have hb0 := hb 0 (by simp [newVals])
    obtain ⟨g1, g2⟩ := unpack_rep (obs := obs ++ [.arr e x.1]) (βs := βs ++ [v]) (βf := βf) hF h2 (by simp [hl]) (fun i hi => by
      have := hb (i + 1) (by simp [newVals] at hi ⊢; omega)
      rw [List.length_append, List.length_singleton, Nat.add_assoc, Nat.add_comm 1 i, this]
      simp [newVals]) (by simpa [newVals] using hle)
    refine ⟨by simp only [unpack, unpackOne, List.length_cons]; omega, fun i q1 q2 => ?_⟩
    cases i with
    | zero =>
      refine ⟨by simp [newVals] at hle; omega, ?_⟩
      rw [Nat.add_zero, hl] at hb0
      rw [hb0]; rfl
    | succ i => exact g2 i (by simpa [unpack, unpackOne] using q1) (by simpa using q2)
  | .map kk kv :: t :: r, x, _, obs, βs, βf, ⟨v, q, rfl, h1, h2⟩, hl, hb, hle => by
    have hb0 := hb 0 (by simp [newVals])
    obtain ⟨g1, g2⟩ := unpack_rep (obs := obs ++ [.map kk kv x.1]) (βs := βs ++ [v]) (βf := βf) hF h2 (by simp [hl]) (fun i hi => by
      have := hb (i + 1) (by simp [newVals] at hi ⊢; omega)
      rw [List.length_append, List.length_singleton, Nat.add_assoc, Nat.add_comm 1 i, this]
      simp [newVals]) (by simpa [newVals] using hle)
    refine ⟨by simp only [unpack, unpackOne, List.length_cons]; omega, fun i q1 q2 => ?_⟩
    cases i with
    | zero =>
      refine ⟨by simp [newVals] at hle; omega, ?_⟩
      rw [Nat.add_zero, hl] at hb0
      rw [hb0]; rfl
    | succ i => exact g2 i (by simpa [unpack, unpackOne] using q1) (by simpa using q2)

/-- the labels that are left -/
def srcLabels : List TV → List Nat
  | [] => []
  | .arr L :: r => L :: srcLabels r
  | .map L :: r => L :: srcLabels r
  | _ :: r => srcLabels r
theorem leave_ok : ∀ {l : List TV} {obs obs1 : List Ob}, leave wr l obs = some obs1 → Drops obs obs1 ∧ (srcLabels l).Nodup ∧ (∀ L ∈ srcLabels l, wr L = true ∧ (getOb obs L).live = true ∧ (∀ cs, getOb obs L ≠ .box cs) ∧ getOb obs1 L = .dead) ∧ (∀ L, L ∉ srcLabels l → getOb obs1 L = getOb obs L) ∧
    ∀ tv ∈ l, (∃ k x, tv = .val k x) ∨ (∃ e, tv = .nilk e) ∨ ∃ L ∈ srcLabels l, tv = .arr L ∨ tv = .map L
  | [], obs, obs1, h => by cases h; exact ⟨⟨rfl, fun _ => .inl rfl⟩, by simp [srcLabels], by simp [srcLabels], fun _ _ => rfl, by simp⟩
  | tv :: r, obs, obs1, h => by
    have step : ∀ {L : Nat}, L < obs.length → (getOb obs L).live = true → (∀ cs, getOb obs L ≠ .box cs) → wr L = true → leave wr r (obs.set L .dead) = some obs1 → srcLabels (tv :: r) = L :: srcLabels r → (tv = .arr L ∨ tv = .map L) →
        Drops obs obs1 ∧ (srcLabels (tv :: r)).Nodup ∧ (∀ L ∈ srcLabels (tv :: r), wr L = true ∧ (getOb obs L).live = true ∧ (∀ cs, getOb obs L ≠ .box cs) ∧ getOb obs1 L = .dead) ∧ (∀ L, L ∉ srcLabels (tv :: r) → getOb obs1 L = getOb obs L) ∧
          ∀ t ∈ tv :: r, (∃ k x, t = .val k x) ∨ (∃ e, t = .nilk e) ∨ ∃ L ∈ srcLabels (tv :: r), t = .arr L ∨ t = .map L := by
      intro L hL hlv hnb hw hlf hsl htv
      obtain ⟨g1, g2, g3, g4, g5⟩ := leave_ok hlf
      have hd : ∀ M, getOb (obs.set L .dead) M = if L = M then .dead else getOb obs M := fun M => getOb_set hL
      have hLn : L ∉ srcLabels r := fun q => by
        have := (g3 L q).2.1
        rw [hd, if_pos rfl] at this; cases this
      rw [hsl]
      refine ⟨⟨by rw [g1.1]; simp, fun M => ?_⟩, List.nodup_cons.2 ⟨hLn, g2⟩, fun M hM => ?_, fun M hM => ?_, fun t ht => ?_⟩
      · rcases g1.2 M with q | q
        · rw [q, hd]
          by_cases e : L = M
          · rw [if_pos e]; exact .inr rfl
          · rw [if_neg e]; exact .inl rfl
        · exact .inr q
      · rcases List.mem_cons.1 hM with rfl | hM
        · refine ⟨hw, hlv, hnb, ?_⟩
          rw [g4 M hLn, hd, if_pos rfl]
        · have hne : L ≠ M := fun e => hLn (e ▸ hM)
          have := g3 M hM
          rw [hd, if_neg hne] at this
          exact this
      · have h1 : M ≠ L := fun e => hM (e ▸ List.mem_cons_self ..)
        rw [g4 M (fun q => hM (List.mem_cons_of_mem _ q)), hd, if_neg (fun e => h1 e.symm)]
      · rcases List.mem_cons.1 ht with rfl | ht
        · exact .inr (.inr ⟨L, List.mem_cons_self .., htv⟩)
        · rcases g5 t ht with q | q | ⟨M, hM, q⟩
          · exact .inl q
          · exact .inr (.inl q)
          · exact .inr (.inr ⟨M, List.mem_cons_of_mem _ hM, q⟩)
    have pass : leave wr r obs = some obs1 → srcLabels (tv :: r) = srcLabels r → ((∃ k x, tv = .val k x) ∨ ∃ e, tv = .nilk e) →
        Drops obs obs1 ∧ (srcLabels (tv :: r)).Nodup ∧ (∀ L ∈ srcLabels (tv :: r), wr L = true ∧ (getOb obs L).live = true ∧ (∀ cs, getOb obs L ≠ .box cs) ∧ getOb obs1 L = .dead) ∧ (∀ L, L ∉ srcLabels (tv :: r) → getOb obs1 L = getOb obs L) ∧
          ∀ t ∈ tv :: r, (∃ k x, t = .val k x) ∨ (∃ e, t = .nilk e) ∨ ∃ L ∈ srcLabels (tv :: r), t = .arr L ∨ t = .map L := by
      intro hlf hsl htv
      obtain ⟨g1, g2, g3, g4, g5⟩ := leave_ok hlf
      rw [hsl]
      refine ⟨g1, g2, g3, g4, fun t ht => ?_⟩
      rcases List.mem_cons.1 ht with rfl | ht
      · rcases htv with q | q
        · exact .inl q
        · exact .inr (.inl q)
      · exact g5 t ht
    cases tv with
    | arr L =>
      simp only [leave] at h
      split at h
      · rename_i e l ho hw
        exact step (getOb_lt ho rfl) (by rw [ho]; rfl) (fun cs q => by rw [ho] at q; cases q) hw h rfl (.inl rfl)
      · cases h
    | map L =>
      simp only [leave] at h
      split at h
      · rename_i kk kv m ho hw
        exact step (getOb_lt ho rfl) (by rw [ho]; rfl) (fun cs q => by rw [ho] at q; cases q) hw h rfl (.inr rfl)
      · cases h
    | val k x => exact pass h rfl (.inl ⟨k, x, rfl⟩)
    | nilk e => exact pass h rfl (.inr ⟨e, rfl⟩)
    | _ => simp [leave] at h

end Go.Proofs.YtbliiipcjbmbiaaGreatDoor.Ev

namespace Go.Proofs.YtbliiipcjbmbiaaGreatDoor.Ev
open Go.RowKit
set_option linter.unusedVariables false
set_option linter.unusedSimpArgs false
open Go.ChangeMaps (setBlock)
variable {P : Program} {J : Inv} {Γ : Ctx} {B : Base} {βs : List Value} {w : World} {obs obs' : List Ob} {wr : Nat → Bool}
theorem mem_left {es : Array MapEntry} {seen : Array Nat} {e : MapEntry} : e ∈ (leftOf es seen).toList ↔ e ∈ es.toList ∧ seen.contains e.born = false := by
  unfold leftOf
  simp
theorem born_inj {es : Array MapEntry} (hn : (es.toList.map (·.born)).Nodup) {i j : Nat} {a b : MapEntry} (hi : es[i]? = some a) (hj : es[j]? = some b) (h : a.born = b.born) : i = j := by
  have h1 : (es.toList.map (·.born))[i]? = some a.born := by simp [hi]
  have h2 : (es.toList.map (·.born))[j]? = some a.born := by simp [hj, h]
  exact (List.getElem?_inj (by
    have := (Array.getElem?_eq_some_iff.1 hi).1
    simpa using this) hn).1 (h1.trans h2.symm)
/-- one round: what is left, whichever comes -/
theorem next_ok (h : Rep' P J B βs obs w) {L : Nat} {kk kv : Kd} {m : List (kk.T × kv.T)} {left : List Nat} {cur : Option Nat} (hL : L < obs.length) (ho : getOb obs L = .iter kk kv m left cur) (hw : wr L = true) (hkk : kk.isVal = true) (hkv : kv.isVal = true) {v : Value} (hv : TVRep P J w (Fz B βs obs w) B.S βs (.ptr L 0) v) (ty : TypeId) :
    (left = [] ∧ (Instr.next v false ty).run P w = .ok (.tuple #[.bool false]) w) ∨
    ∃ i ∈ left, ∃ hi : i < m.length, ∃ v' w', (Instr.next v false ty).run P w = .ok v' w' ∧ Behind P J B βs obs wr w (.tup [.val .bool true, .val kk m[i].1, .val kv m[i].2]) (obs.set L (.iter kk kv m (left.filter fun j => !Nat.beq j i) (some i))) v' w' := by
  obtain ⟨hLb, b, hb, rfl⟩ := hv
  have hr := h.obs.rep L hLb
  rw [ho] at hr
  obtain ⟨b', hb', hit⟩ := hr
  rw [hb] at hb'
  have hbb : b = b' := by simpa using hb'
  subst hbb
  rcases hit with ⟨q1, q2, q3⟩ | ⟨r, es, clock, seen, q1, q2, q3, q4, q5, q6, q7, q8⟩
  · left
    refine ⟨q2, ?_⟩
    simp [Instr.next, getObj, Sem.run, q1, Result.andThen]
  · obtain ⟨hes, hst⟩ := q4
    rcases run_next_at (P := P) w ty b r clock clock seen es clock q1 q3 hst.1 (Nat.le_refl _) with ⟨h0, hrun⟩ | ⟨e, he, w1, hw1, hrun⟩
    · left
      refine ⟨?_, hrun⟩
      cases hl : left with
      | nil => rfl
      | cons i l =>
        exfalso
        have hi := q7 i (by rw [hl]; simp)
        have hei : es[i]? = some es[i] := Array.getElem?_eq_getElem (by omega)
        have hc := (q6 i es[i] hei).1 (by rw [hl]; simp)
        have : es[i] ∈ (leftOf es seen).toList := mem_left.2 ⟨by simp, hc⟩
        rw [← Array.length_toList] at h0
        rw [List.length_eq_zero_iff.1 h0] at this
        cases this
    · right
      obtain ⟨he1, he2⟩ := mem_left.1 he
      obtain ⟨i, hi, hie⟩ := List.getElem_of_mem he1
      have hi : i < es.size := by simpa using hi
      have hei : es[i]? = some e := by rw [Array.getElem?_eq_getElem hi]; exact congrArg some (by simpa using hie)
      have hil : i ∈ left := (q6 i e hei).2 he2
      have him := q7 i hil
      have hblt : b < w.heap.size := (Array.getElem?_eq_some_iff.1 q1).1
      have e1 : w1.os = w.os ∧ w1.tape = w.tape ∧ w1.output = w.output ∧ w1.heap = w.heap := by rcases hw1 with rfl | rfl <;> exact ⟨rfl, rfl, rfl, rfl⟩
      have hheap : ∀ k, b ≠ k → (setBlock w1 b (.mapIter (some r) clock (seen.push e.born) clock)).heap[k]? = w.heap[k]? := fun k hk => by
        show (w1.heap.setIfInBounds b _)[k]? = _
        rw [e1.2.2.2, Array.getElem?_setIfInBounds_ne hk]
      have hnew : (setBlock w1 b (.mapIter (some r) clock (seen.push e.born) clock)).heap[b]? = some (.mapIter (some r) clock (seen.push e.born) clock) := by
        show (w1.heap.setIfInBounds b _)[b]? = _
        rw [e1.2.2.2, Array.getElem?_setIfInBounds_self_of_lt hblt]
      have st := h.write (wr := wr) (o := .iter kk kv m (left.filter fun j => !Nat.beq j i) (some i)) (w' := setBlock w1 b (.mapIter (some r) clock (seen.push e.born) clock)) hL (by rw [ho]; rfl) hw rfl e1.1 e1.2.1 e1.2.2.1 (by
          show (w1.heap.setIfInBounds b _).size = _
          rw [Array.size_setIfInBounds, e1.2.2.2]) (fun k hk => hheap k (fun q => hk (by rw [hb, q]; rfl))) (fun hF => by
          refine ⟨b, hb, .inr ⟨r, es, clock, seen.push e.born, hnew, (hF r q2).1, (hF r q2).2.trans q3, ⟨hes, hst⟩, fun j hj => ?_, fun j en hj => ?_, fun j hj => q7 j (List.mem_filter.1 hj).1, fun c hc => ?_⟩⟩
          · obtain ⟨en, ck, cv, g1, g2, g3, g4, g5⟩ := q5 j hj
            exact ⟨en, ck, cv, g1, g2, g3, Rd.mono hF g4, Rd.mono hF g5⟩
          · rw [List.mem_filter, q6 j en hj, Array.contains_push]
            have hji : Nat.beq j i = (en.born == e.born) := by
              by_cases hq : j = i
              · subst hq
                rw [hei] at hj
                cases hj
                simp
              · rw [show Nat.beq j i = false by cases z : Nat.beq j i; rfl; exact absurd (Nat.eq_of_beq_eq_true z) hq]
                refine Eq.symm (beq_eq_false_iff_ne.2 fun z => hq (born_inj hst.2.1 hj hei z))
            rw [hji]
            cases seen.contains en.born <;> cases en.born == e.born <;> simp
          · cases hc
            exact ⟨e, seen, hei, rfl⟩)
      refine ⟨i, hil, him, _, _, hrun, βs, st, #[.bool true, e.key, e.val], rfl, rfl, fun j hj => ?_⟩
      obtain ⟨en, ck, cv, g1, g2, g3, g4, g5⟩ := q5 i him
      rw [hei] at g1
      cases g1
      have hF : ∀ b', Fz B βs obs w b' → Fz B βs (obs.set L (.iter kk kv m (left.filter fun j => !Nat.beq j i) (some i))) (setBlock w1 b (.mapIter (some r) clock (seen.push e.born) clock)) b' ∧ (setBlock w1 b (.mapIter (some r) clock (seen.push e.born) clock)).heap[b']? = w.heap[b']? := fun b' hb' => by
        obtain ⟨n1, n2⟩ := h.notOwn hb'
        refine ⟨?_, st.block b' n1 n2⟩
        rcases hb' with q | ⟨z1, z2, z3⟩
        · exact .inl q
        · refine .inr ⟨z1, Nat.lt_of_lt_of_le z2 st.size, fun hq => ?_⟩
          rcases (st.own b' hq).1 with y | y
          · exact n2 y
          · omega
      match j, hj with
      | 0, _ => exact ⟨rfl, [.bool true], by simp [valCells, Kd.isAgg], rfl⟩
      | 1, _ => exact ⟨hkk, ck, g2, Rd.mono hF g4⟩
      | 2, _ => exact ⟨hkv, cv, g3, Rd.mono hF g5⟩
theorem nextOuts_mem {L : Nat} {kk kv : Kd} {m : List (kk.T × kv.T)} {left : List Nat} : ∀ {r : List Nat} {l : List (TV × List Ob)}, nextOuts L kk kv m left obs r = some l → ∀ i ∈ r, ∀ hi : i < m.length, (TV.tup [.val .bool true, .val kk m[i].1, .val kv m[i].2], obs.set L (.iter kk kv m (left.filter fun j => !Nat.beq j i) (some i))) ∈ l
  | [], l, _, i, h, _ => by cases h
  | j :: r, l, he, i, h, hi => by
    simp only [nextOuts] at he
    split at he
    · rename_i p l' hp hl
      cases he
      rcases List.mem_cons.1 h with rfl | h
      · rw [List.getElem?_eq_getElem hi] at hp
        cases hp
        exact List.mem_cons_self ..
      · exact List.mem_cons_of_mem _ (nextOuts_mem hl i h hi)
    · cases he
theorem allSame_ok {R : Type} {f : R → R → Bool} (hf : ∀ a b, f a b = true → a = b) {l : List (Option R)} {r : R} (h : allSame f l = some r) : ∀ x ∈ l, x = some r := by
  cases l with
  | nil => cases h
  | cons x l =>
    cases x with
    | none => cases h
    | some a =>
      simp only [allSame] at h
      split at h
      · rename_i ha
        cases h
        intro x hx
        rcases List.mem_cons.1 hx with rfl | hx
        · rfl
        · have := List.all_eq_true.1 ha x hx
          cases x with
          | none => cases this
          | some b => rw [hf _ _ this]
      · cases h
theorem nextHead_ok {l : List Oper} {n : Oper × Operand × List Oper} (h : nextHead l = some n) : l = n.1 :: n.2.2 ∧ n.1.op = .next n.2.1 false ∧ n.1.guard = none := by
  cases l with
  | nil => cases h
  | cons o rest =>
    simp only [nextHead] at h
    split at h
    · rename_i it h1 h2
      cases h
      exact ⟨rfl, h1, h2⟩
    · cases h
/-- one of what may come next comes -/
theorem nextAt_ok (h : Rep' P J B βs obs w) {tv : TV} {v : Value} (hv : TVRep P J w (Fz B βs obs w) B.S βs tv v) {l : List (TV × List Ob)} (he : nextAt wr tv obs = some l) (ty : TypeId) :
    ∃ p ∈ l, ∃ v' w', (Instr.next v false ty).run P w = .ok v' w' ∧ Behind P J B βs obs wr w p.1 p.2 v' w' := by
  unfold nextAt at he
  split at he
  · rename_i L
    split at he
    · rename_i kk kv m left cur ho
      split at he
      · rename_i hc
        simp only [Bool.and_eq_true] at hc
        have hL : L < obs.length := getOb_live_lt (by rw [ho]; rfl)
        rcases next_ok h hL ho hc.1 hc.2.1 hc.2.2 hv ty with ⟨rfl, hrun⟩ | ⟨i, hi, him, v', w', hrun, hb⟩
        · cases he
          exact ⟨_, List.mem_singleton.2 rfl, _, _, hrun, βs, h.step_refl wr, #[.bool false], rfl, rfl, fun j hj => by
            match j, hj with
            | 0, _ => exact ⟨rfl, [.bool false], by simp [valCells, Kd.isAgg], rfl⟩⟩
        · split at he
          · cases hi
          · exact ⟨_, nextOuts_mem he i hi him, v', w', hrun, hb⟩
      · cases he
    · cases he
  · cases he
/-- what the round stands at -/
theorem entry_ok (h : Rep' P J B βs obs w) {L : Nat} {kk kv : Kd} {m : List (kk.T × kv.T)} {left : List Nat} {c : Nat} (hL : L < obs.length) (ho : getOb obs L = .iter kk kv m left (some c)) (hkk : kk.isVal = true) (hkv : kv.isVal = true) {v : Value} (hv : TVRep P J w (Fz B βs obs w) B.S βs (.ptr L 0) v) {p : kk.T × kv.T} (hp : m[c]? = some p) :
    ∃ v', (Instr.entry v).run P w = .ok v' w ∧ TVRep P J w (Fz B βs obs w) B.S βs (.tup [.val kk p.1, .val kv p.2]) v' := by
  obtain ⟨hLb, b, hb, rfl⟩ := hv
  have hr := h.obs.rep L hLb
  rw [ho] at hr
  obtain ⟨b', hb', hit⟩ := hr
  rw [hb] at hb'
  have hbb : b = b' := by simpa using hb'
  subst hbb
  rcases hit with ⟨q1, q2, q3⟩ | ⟨r, es, clock, seen, q1, q2, q3, q4, q5, q6, q7, q8⟩
  · cases q3
  · obtain ⟨en, s0, g1, rfl⟩ := q8 c rfl
    obtain ⟨hc, rfl⟩ := List.getElem?_eq_some_iff.1 hp
    obtain ⟨en', ck, cv, g2, g3, g4, g5, g6⟩ := q5 c hc
    rw [g1] at g2
    cases g2
    have hen : en ∈ es.toList := by
      obtain ⟨hlt, rfl⟩ := Array.getElem?_eq_some_iff.1 g1
      simp
    refine ⟨_, run_entry_at w b r clock s0 es clock en q1 q3 hen q4.2.2.1, #[en.key, en.val], rfl, rfl, fun j hj => ?_⟩
    match j, hj with
    | 0, _ => exact ⟨hkk, ck, g3, g5⟩
    | 1, _ => exact ⟨hkv, cv, g4, g6⟩
theorem evEntry_ok (h : Rep' P J B βs obs w) {x : TV} {v : Value} (hx : TVRep P J w (Fz B βs obs w) B.S βs x v) {tv : TV} (he : (evEntry x obs).To (tv, obs')) : Gives P J B βs obs wr w (Instr.entry v) tv obs' := by
  unfold evEntry at he
  split at he
  · rename_i L
    split at he
    · rename_i kk kv m left c ho
      split at he
      · rename_i p hc hp
        obtain ⟨rfl, rfl⟩ := Res.to_nowV he
        simp only [Bool.and_eq_true] at hc
        obtain ⟨v', h1, h2⟩ := entry_ok h (getOb_live_lt (by rw [ho]; rfl)) ho hc.1 hc.2 hx hp
        exact ⟨βs, v', w, h1, h.step_refl wr, h2⟩
      · exact (Res.to_fail he).elim
    · exact (Res.to_fail he).elim
  · exact (Res.to_fail he).elim
theorem evRange_ok (hΓ : CtxOK P J Γ) (h : Rep' P J B βs obs w) {t : Nat} {x : TV} {v : Value} (hx : TVRep P J w (Fz B βs obs w) B.S βs x v) {tv : TV} (he : (evRange Γ wr t x obs).To (tv, obs')) : Gives P J B βs obs wr w (Instr.range t v) tv obs' := by
  unfold evRange at he
  split at he
  · rename_i kk kv hk
    split at he
    · rename_i obs1 m hf hm
      obtain ⟨rfl, rfl⟩ := Res.to_nowV he
      obtain ⟨tk, te, hu, _, _⟩ := hΓ.map hk
      have hs := frz1_step h hf
      have h1 := hs.rep' h
      obtain ⟨_, vs, q1, q2⟩ := toVal_frz h hx hm hf
      have q1 : vs = [v] := by
        unfold valCells at q1
        simpa [Kd.isAgg] using q1
      subst q1
      have fin : ∀ (o : Obj), (Instr.range t v).run P w = .ok (.pointer (some ⟨w.heap.size, 0, none⟩)) (w.alloc o) → (∀ F' : Nat → Prop, (∀ b, Fz B βs obs1 w b → F' b ∧ (w.alloc o).heap[b]? = w.heap[b]?) → (w.alloc o).heap[w.heap.size]? = some o → IterIs (w.alloc o) F' kk kv w.heap.size m (List.range m.length) none) →
          Gives P J B βs obs wr w (Instr.range t v) (.ptr obs1.length 0) (obs1 ++ [.iter kk kv m (List.range m.length) none]) := fun o hr hi => by
        obtain ⟨f1, f2, f3⟩ := alloc_facts w o
        refine ⟨βs ++ [.pointer (some ⟨w.heap.size, 0, none⟩)], _, _, hr, hs.trans (h1.fresh (.inl rfl) rfl rfl rfl (by omega) (fun b hb _ => f3 b hb) (fun b hb _ => f3 b hb) (fun b _ hb => ?_) (fun hF => ⟨w.heap.size, rfl, hi _ hF f2⟩)), ⟨by simp [h1.obs.len], w.heap.size, ?_, rfl⟩⟩
        · cases hb
          exact ⟨.inl (Nat.le_refl _), by show w.heap.size < _; omega⟩
        · rw [bv_append, h1.obs.len, if_neg (by omega), if_pos rfl]
      rcases q2 with ⟨q3, q4⟩ | ⟨r, es, clock, q3, q4, q5, q6, q7⟩
      · have q3 : v = .map none := by simpa using q3
        subst q3
        have q4 : m = [] := q4
        subst q4
        exact fin (.mapIter none 0 #[] 0) (by simp [Instr.range, run_underlying hu, newObj, Sem.run, Result.andThen]) fun F' hF hn => .inl ⟨hn, rfl, rfl⟩
      · have q3 : v = .map (some r) := by simpa using q3
        subst q3
        refine fin (.mapIter (some r) clock #[] clock) (by simp [Instr.range, run_underlying hu, getObj, newObj, Sem.run, q5, Result.andThen]) fun F' hF hn => .inr ⟨r, es, clock, #[], hn, (hF r q4).1, (hF r q4).2.trans q5, q6, fun i hi => ?_, fun i en hi => ?_, fun i hi => List.mem_range.1 hi, fun c hc => by cases hc⟩
        · obtain ⟨en, ck, cv, e1, e2, e3, e4, e5⟩ := q7 i hi
          exact ⟨en, ck, cv, e1, e2, e3, Rd.mono hF e4, Rd.mono hF e5⟩
        · have := (Array.getElem?_eq_some_iff.1 hi).1
          simp only [List.mem_range]
          constructor
          · intro _; simp
          · intro _; rw [← q6.1]; exact this
    · exact (Res.to_fail he).elim
  · exact (Res.to_fail he).elim
end Go.Proofs.YtbliiipcjbmbiaaGreatDoor.Ev

namespace Go.Proofs.YtbliiipcjbmbiaaGreatDoor.Ev
open Go.RowKit
set_option linter.unusedVariables false
set_option linter.unusedSimpArgs false

variable {P : Program} {J : Inv} {Γ : Ctx} {B : Base} {C : LBase} {βs : List Value} {st : St} {a : Act} {w w' : World} {obs obs1 obs2 : List Ob} {wr : Nat → Bool}

theorem TVs.length : ∀ {tvs : List TV} {vs : List Value}, TVs P J B βs obs w tvs vs → tvs.length = vs.length
  | [], vs, h => by rw [show vs = _ from h]; rfl
  | tv :: tvs, vs, ⟨v, r, e, _, h⟩ => by subst e; simp [TVs.length h]

/-! ### the cells of the open variables -/
def TVleaf (tv : TV) : Prop := ∀ k x, tv = .val k x → k.isAgg = false
theorem TVleaf.of {r : RV} (h : leafOK r) : TVleaf r.tv := by
  intro k x e
  cases r <;> cases e
  exact h

theorem TVs.of_cells : ∀ {cs : List RV} {l : List Value}, cs.length = l.length → (∀ (i : Nat) (h : i < cs.length), RVRep w (Fz B βs obs w) βs cs[i] (l.getD i undef)) → TVs P J B βs obs w (cs.map RV.tv) l
  | [], [], _, _ => rfl
  | [], _ :: _, h, _ => by cases h
  | _ :: _, [], h, _ => by cases h
  | c :: cs, v :: l, hl, h => ⟨v, l, rfl, (h 0 (by simp)).toTV, TVs.of_cells (by simpa using hl) fun i hi => by
    have := h (i + 1) (by simpa using hi)
    rw [List.getElem_cons_succ] at this
    simpa using this⟩
theorem TVs.append_ {l1 l2 : List TV} {v1 v2 : List Value} (h1 : TVs P J B βs obs w l1 v1) (h2 : TVs P J B βs obs w l2 v2) : TVs P J B βs obs w (l1 ++ l2) (v1 ++ v2) := TVs.append h1 h2

theorem srcObs_rep (h : Rep' P J B βs obs w) : ∀ {cnts : List (Nat × Nat)} {tvs : List TV}, srcObs cnts obs = some tvs →
    ∃ vs, TVs P J B βs obs w tvs vs ∧ BoxVals w βs cnts vs ∧ (∀ tv ∈ tvs, TVleaf tv) ∧ ∀ p ∈ cnts, ∃ cs, getOb obs p.1 = .box cs
  | [], tvs, he => by cases he; exact ⟨[], rfl, rfl, by simp, by simp⟩
  | (L, n) :: r, tvs, he => by
    simp only [srcObs] at he
    split at he
    · rename_i cs ho
      split at he
      · rename_i hn
        split at he
        · rename_i b hb
          cases he
          obtain ⟨q, q1, q2, q3, q4⟩ := srcObs_rep h hb
          have hL := getOb_lt ho rfl
          have hr := h.obs.rep L (by rw [h.obs.len]; exact hL)
          rw [ho] at hr
          obtain ⟨bl, c, t, fr, e1, e2, e3, e4, e5⟩ := hr
          have hn : cs.length = n := Nat.eq_of_beq_eq_true hn
          refine ⟨c.toList ++ q, TVs.append (TVs.of_cells (by simp [e4]) fun i hi => ?_) q1, ⟨bl, c, t, fr, q, rfl, e1, e2, e3, by rw [e4]; exact hn, q2⟩, ?_, ?_⟩
          · have := (e5 i hi).2
            simpa using this
          · intro tv ht
            rcases List.mem_append.1 ht with ht | ht
            · obtain ⟨rv, hrv, rfl⟩ := List.mem_map.1 ht
              obtain ⟨i, hi, rfl⟩ := List.getElem_of_mem hrv
              exact TVleaf.of (e5 i hi).1
            · exact q3 tv ht
          · intro p hp
            rcases List.mem_cons.1 hp with rfl | hp
            · exact ⟨cs, ho⟩
            · exact q4 p hp
        · cases he
      · cases he
    · cases he

theorem openSet_rep {F' : Nat → Prop} {βs' : List Value} : ∀ {cnts : List (Nat × Nat)} {vs : List Value} {rvs : List RV} {obs : List Ob}, BoxVals w βs cnts vs → rvs.length = vs.length →
    (∀ (i : Nat) (h1 : i < rvs.length), leafOK rvs[i] ∧ RVRep w F' βs' rvs[i] (vs.getD i undef)) → (cnts.map (·.1)).Nodup → (∀ p ∈ cnts, p.1 < obs.length ∧ bv βs' p.1 = bv βs p.1) →
    (openSet cnts rvs obs).length = obs.length ∧ (∀ L, L ∉ cnts.map (·.1) → getOb (openSet cnts rvs obs) L = getOb obs L) ∧ ∀ L ∈ cnts.map (·.1), ∃ cs, getOb (openSet cnts rvs obs) L = .box cs ∧ ObRep w F' βs' (bv βs' L) (.box cs)
  | [], vs, rvs, obs, _, _, _, _, _ => ⟨rfl, fun _ _ => rfl, by simp⟩
  | (L, n) :: r, vs, rvs, obs, ⟨b, c, t, fr, q, hvs, e1, e2, e3, e4, e5⟩, hl, hr, hnd, hp => by
    have e4 : c.size = n := e4
    subst hvs
    have hl' : rvs.length = n + q.length := by simpa [e4] using hl
    have hnd' := List.nodup_cons.1 (show (L :: r.map (·.1)).Nodup from hnd)
    have hL := hp (L, n) (List.mem_cons_self ..)
    obtain ⟨g1, g2, g3⟩ := openSet_rep (obs := obs.set L (.box (rvs.take n))) (rvs := rvs.drop n) e5 (by simp; omega) (fun i hi => by
      have hi' : n + i < rvs.length := by simp at hi; omega
      have := hr (n + i) hi'
      rw [List.getElem_drop]
      refine ⟨this.1, ?_⟩
      have e : (c.toList ++ q).getD (n + i) undef = q.getD i undef := by
        simp only [List.getD_eq_getElem?_getD]
        rw [List.getElem?_append_right (by simp [e4])]
        simp [e4]
      rw [e] at this; exact this.2) hnd'.2 (fun p hp' => by
        have := hp p (List.mem_cons_of_mem _ hp')
        simpa using this)
    have hset : ∀ M, getOb (obs.set L (.box (rvs.take n))) M = if L = M then .box (rvs.take n) else getOb obs M := fun M => getOb_set hL.1
    refine ⟨by rw [show openSet ((L, n) :: r) rvs obs = openSet r (rvs.drop n) (obs.set L (.box (rvs.take n))) from rfl, g1]; simp, fun M hM => ?_, fun M hM => ?_⟩
    · have hM : M ∉ L :: r.map (·.1) := hM
      rw [show openSet ((L, n) :: r) rvs obs = openSet r (rvs.drop n) (obs.set L (.box (rvs.take n))) from rfl, g2 M (fun q => hM (List.mem_cons_of_mem _ q)), hset, if_neg]
      rintro rfl
      exact hM (List.mem_cons_self ..)
    · have hM : M ∈ L :: r.map (·.1) := hM
      rw [show openSet ((L, n) :: r) rvs obs = openSet r (rvs.drop n) (obs.set L (.box (rvs.take n))) from rfl]
      rcases List.mem_cons.1 hM with rfl | hM
      · refine ⟨rvs.take n, by rw [g2 M hnd'.1, hset, if_pos rfl], b, c, t, fr, hL.2.trans e1, e2, e3, by simp; omega, fun i hi => ?_⟩
        have hi' : i < n := by simp at hi; omega
        have := hr i (by omega)
        rw [List.getElem_take]
        refine ⟨this.1, ?_⟩
        have e : (c.toList ++ q).getD i undef = c.getD i undef := by
          simp only [List.getD_eq_getElem?_getD]
          rw [List.getElem?_append_left (by simp [e4, hi'])]
          simp
        rw [e] at this; exact this.2
      · exact g3 M hM

/-! ### what is packed, one at a time -/
theorem pack_cons {s : SV} {ss : List SV} {tvs : List TV} {x : XT (s :: ss)} (h : pack (s :: ss) tvs obs = some x) : ∃ tv r, tvs = tv :: r ∧ (∃ y, packOne s tv obs = some y) ∧ ∃ z, pack ss r obs = some z := by
  cases ss with
  | nil =>
    cases tvs with
    | nil => simp [pack] at h
    | cons tv r =>
      cases r with
      | nil => exact ⟨tv, [], rfl, ⟨x, h⟩, (), rfl⟩
      | cons _ _ => simp [pack] at h
  | cons t ss =>
    cases tvs with
    | nil => simp [pack] at h
    | cons tv r =>
      simp only [pack] at h
      split at h
      · rename_i y ys hy hys
        exact ⟨tv, r, rfl, ⟨y, hy⟩, ys, hys⟩
      · cases h
theorem newVals_nil (ss : List SV) : newVals ss [] = [] := by
  cases ss with
  | nil => rfl
  | cons s ss => cases s <;> rfl
theorem srcLabels_sub {tv : TV} {tvs : List TV} {L : Nat} (h : L ∈ srcLabels tvs) : L ∈ srcLabels (tv :: tvs) := by
  cases tv <;> simp only [srcLabels] <;> first | exact h | exact List.mem_cons_of_mem _ h

/-- the blocks behind the new labels are those of the labels that were left -/
theorem newVals_own : ∀ {ss : List SV} {tvs : List TV} {vs : List Value}, TVs P J B βs obs w tvs vs → (∃ x, pack ss tvs obs = some x) →
    ∀ v ∈ newVals ss vs, ∀ b, bOf v = some b → ∃ L ∈ srcLabels tvs, L < βs.length ∧ bOf (bv βs L) = some b
  | [], tvs, vs, _, _ => by simp [newVals]
  | s :: ss, tvs, vs, ht, ⟨x, hx⟩ => by
    obtain ⟨tv, r, rfl, ⟨y, hy⟩, hz⟩ := pack_cons hx
    obtain ⟨v, q, rfl, h1, h2⟩ := ht
    have ih := newVals_own h2 hz
    have ih' : ∀ v ∈ newVals ss q, ∀ b, bOf v = some b → ∃ L ∈ srcLabels (tv :: r), L < βs.length ∧ bOf (bv βs L) = some b := fun v hv b hb => by
      obtain ⟨L, hL, q1⟩ := ih v hv b hb
      exact ⟨L, srcLabels_sub hL, q1⟩
    have one : ∀ b, (∀ k, s ≠ .val k) → bOf v = some b → ∃ L ∈ srcLabels (tv :: r), L < βs.length ∧ bOf (bv βs L) = some b := fun b hs hb => by
      cases tv with
      | arr L =>
        obtain ⟨hL, rfl⟩ := h1
        exact ⟨L, List.mem_cons_self .., hL, hb⟩
      | map L =>
        obtain ⟨hL, rfl⟩ := h1
        exact ⟨L, List.mem_cons_self .., hL, hb⟩
      | nilk e =>
        rw [show v = _ from h1] at hb; cases hb
      | _ => cases s <;> simp [packOne] at hy <;> exact absurd rfl (hs _)
    cases s with
    | val k => exact ih'
    | arr e =>
      intro v' hv b hb
      rcases List.mem_cons.1 (show v' ∈ v :: newVals ss q from hv) with rfl | hv
      · exact one b (by simp) hb
      · exact ih' v' hv b hb
    | map kk kv =>
      intro v' hv b hb
      rcases List.mem_cons.1 (show v' ∈ v :: newVals ss q from hv) with rfl | hv
      · exact one b (by simp) hb
      · exact ih' v' hv b hb

theorem newVals_inj (h : Rep' P J B βs obs w) : ∀ {ss : List SV} {tvs : List TV} {vs : List Value}, TVs P J B βs obs w tvs vs → (∃ x, pack ss tvs obs = some x) → (srcLabels tvs).Nodup → (∀ L ∈ srcLabels tvs, (getOb obs L).live = true) →
    ∀ i j b, bOf ((newVals ss vs).getD i undef) = some b → bOf ((newVals ss vs).getD j undef) = some b → i = j
  | [], tvs, vs, _, _, _, _ => by intro i j b h1; simp [newVals, undef, bOf] at h1
  | s :: ss, tvs, vs, ht, ⟨x, hx⟩, hnd, hlv => by
    obtain ⟨tv, r, rfl, ⟨y, hy⟩, hz⟩ := pack_cons hx
    obtain ⟨v, q, rfl, h1, h2⟩ := ht
    have hnd' : (srcLabels r).Nodup := by
      cases tv <;> simp only [srcLabels] at hnd <;> first | exact hnd | exact (List.nodup_cons.1 hnd).2
    have ih := newVals_inj h h2 hz hnd' (fun L hL => hlv L (srcLabels_sub hL))
    have one : (∀ k, s ≠ .val k) → ∀ b, bOf v = some b → ∀ j, bOf ((newVals ss q).getD j undef) = some b → False := fun hs b hb j hj => by
      have hmem : (newVals ss q).getD j undef ∈ newVals ss q := by
        rcases Nat.lt_or_ge j (newVals ss q).length with q1 | q1
        · simp only [List.getD_eq_getElem?_getD, List.getElem?_eq_getElem q1, Option.getD_some]
          exact List.getElem_mem q1
        · simp only [List.getD_eq_getElem?_getD, List.getElem?_eq_none q1, Option.getD_none] at hj
          simp [undef, bOf] at hj
      obtain ⟨M, hM, hMb, hMv⟩ := newVals_own h2 hz _ hmem b hj
      have key : ∀ L, v = bv βs L → L < βs.length → srcLabels (tv :: r) = L :: srcLabels r → False := fun L hv hL hsl => by
        rw [hsl] at hnd
        have := h.inj L M b hL hMb (hlv L (by rw [hsl]; exact List.mem_cons_self ..)) (hlv M (srcLabels_sub hM)) (hv ▸ hb) hMv
        exact (List.nodup_cons.1 hnd).1 (this ▸ hM)
      cases tv with
      | arr L => exact key L h1.2 h1.1 rfl
      | map L => exact key L h1.2 h1.1 rfl
      | nilk e => rw [show v = _ from h1] at hb; cases hb
      | _ => cases s <;> simp [packOne] at hy <;> exact absurd rfl (hs _)
    cases s with
    | val k => exact ih
    | arr e =>
      intro i j b hi hj
      cases i <;> cases j
      · rfl
      · exact (one (by simp) b hi _ hj).elim
      · exact (one (by simp) b hj _ hi).elim
      · exact congrArg (· + 1) (ih _ _ b hi hj)
    | map kk kv =>
      intro i j b hi hj
      cases i <;> cases j
      · rfl
      · exact (one (by simp) b hi _ hj).elim
      · exact (one (by simp) b hj _ hi).elim
      · exact congrArg (· + 1) (ih _ _ b hi hj)

theorem packOne_leaf {s : SV} {tv : TV} {x : s.T} {obs' : List Ob} (h : packOne s tv obs = some x) (hl : TVleaf tv) : leafOK (unpackOne s x obs').1 := by
  cases s with
  | val k =>
    simp only [packOne] at h
    split at h
    · rename_i k' x'
      obtain ⟨e, _⟩ := Kd.cast_some h
      subst e
      exact hl _ _ rfl
    · obtain ⟨e, _⟩ := Kd.cast_some h
      subst e
      rfl
    · cases h
  | arr e => trivial
  | map kk kv => trivial
theorem pack_leaf : ∀ {ss : List SV} {tvs : List TV} {x : XT ss} {obs' : List Ob}, pack ss tvs obs = some x → ∀ (i : Nat) (h1 : i < (unpack ss x obs').1.length) (h2 : i < tvs.length), TVleaf tvs[i] → leafOK (unpack ss x obs').1[i]
  | [], [], x, obs', hx => fun i h1 => by cases h1
  | [s], [tv], x, obs', hx => fun i h1 h2 hl => by
    have : i = 0 := by simp at h2; omega
    subst this
    exact packOne_leaf (obs' := obs') hx hl
  | s :: t :: r, tv :: tvs, x, obs', hx => by
    simp only [pack] at hx
    split at hx
    · rename_i y ys hy hys
      cases hx
      intro i h1 h2 hl
      cases i with
      | zero => exact packOne_leaf (obs' := obs') hy hl
      | succ i => exact pack_leaf (obs' := (unpackOne s y obs').2) hys i (by simpa [unpack] using h1) (by simpa using h2) hl
    · cases hx
  | [], _ :: _, _, _, hx => by simp [pack] at hx
  | [_], [], _, _, hx => by simp [pack] at hx
  | _ :: _ :: _, [], _, _, hx => by simp [pack] at hx
  | [_], _ :: _ :: _, _, _, hx => by simp [pack] at hx

end Go.Proofs.YtbliiipcjbmbiaaGreatDoor.Ev

namespace Go.Proofs.YtbliiipcjbmbiaaGreatDoor.Ev
open Go.RowKit
set_option linter.unusedVariables false
set_option linter.unusedSimpArgs false

variable {P : Program} {J : Inv} {Γ : Ctx} {B : Base} {C : LBase} {βs : List Value} {st : St} {a : Act} {w w' : World} {obs obs' obs1 obs2 : List Ob} {wr : Nat → Bool} {tv : TV}

theorem allWr_all {wr : Nat → Bool} : ∀ {l : List Nat}, allWr wr l = true → ∀ L ∈ l, wr L = true
  | [], _ => by simp
  | a :: r, h => by
    simp only [allWr, Bool.and_eq_true] at h
    intro L hL
    rcases List.mem_cons.1 hL with rfl | hL
    · exact h.1
    · exact allWr_all h.2 L hL
theorem nodupB_nodup : ∀ {l : List Nat}, nodupB l = true → l.Nodup
  | [], _ => by simp
  | a :: r, h => by
    simp only [nodupB, Bool.and_eq_true, Bool.not_eq_true'] at h
    refine List.nodup_cons.2 ⟨fun hm => ?_, nodupB_nodup h.2⟩
    have := List.any_eq_true.2 ⟨a, hm, (by simp : Nat.beq a a = true)⟩
    rw [h.1] at this; cases this

/-- the state behind a call that changed variables -/
theorem Rep'.calledX (h : Rep' P J B βs obs w) (hd : Drops obs obs1) (hrel : FrzRel obs1 obs2) (hlock : ∀ M, M < obs.length → wr M = false → getOb obs2 M = getOb obs M)
    {gs : List Nat} (hgs : ∀ b ∈ gs, Own βs obs b ∧ ¬ Own βs obs1 b)
    (hos : w'.os = w.os) (htp : w'.tape = w.tape) (hout : w'.output = w.output) (hsz : w.heap.size ≤ w'.heap.size) (hblk : ∀ b, b < w.heap.size → b ∉ gs → w'.heap[b]? = w.heap[b]?)
    {Ls : List Nat} (hLs : ∀ L ∈ Ls, L < βs.length ∧ wr L = true ∧ (getOb obs L).live = true ∧ ∃ b, bOf (bv βs L) = some b ∧ b ∈ gs)
    {vs : List Value} {news : List Ob} (hlen : news.length = vs.length) {own : List Nat} (hown0 : own = blks vs ++ Ls.flatMap fun L => (bOf (bv βs L)).toList) (hnd : own.Nodup) (hvb : ∀ b ∈ own, (w.heap.size ≤ b ∨ b ∈ gs) ∧ b < w'.heap.size)
    {obs' : List Ob} (hl' : obs'.length = obs2.length + news.length) (hold : ∀ M, M < obs2.length → M ∉ Ls → getOb obs' M = getOb obs2 M) (hnw : ∀ i, i < news.length → getOb obs' (obs2.length + i) = getOb news i)
    {F' : Nat → Prop} (hnew : ∀ (i : Nat) (h1 : i < news.length) (h2 : i < vs.length), news[i].live = true ∧ ObRep w' F' [] vs[i] news[i])
    (hbox : ∀ L ∈ Ls, ∃ cs, getOb obs' L = .box cs ∧ ObRep w' F' (βs ++ vs) (bv βs L) (.box cs))
    (hF' : ∀ b, F' b → (Fz B βs obs w b ∨ (Own βs obs1 b ∧ ¬ Own βs obs2 b) ∨ ((w.heap.size ≤ b ∨ b ∈ gs) ∧ b < w'.heap.size ∧ b ∉ own))) :
    Step B βs obs wr w (βs ++ vs) obs' w' ∧ ∀ b, F' b → Fz B (βs ++ vs) obs' w' b := by
  have hvs : ∀ {b}, b ∈ blks vs → b ∈ own := fun hb => by rw [hown0]; exact List.mem_append_left _ hb
  have hLo : ∀ {L b}, L ∈ Ls → bOf (bv βs L) = some b → b ∈ own := fun {L b} hL hb => by rw [hown0]; exact List.mem_append_right _ (List.mem_flatMap.2 ⟨L, hL, by rw [hb]; simp⟩)
  have hLg : ∀ {L b}, L ∈ Ls → bOf (bv βs L) = some b → b ∈ gs := fun {L b} hL hb => by
    obtain ⟨_, _, _, b', q1, q2⟩ := hLs L hL
    rw [q1] at hb; cases hb; exact q2
  have hap : (blks vs).Nodup ∧ ∀ {L b}, L ∈ Ls → bOf (bv βs L) = some b → b ∈ blks vs → False := by
    rw [hown0, List.nodup_append] at hnd
    exact ⟨hnd.1, fun {L b} hL hb hm => hnd.2.2 b hm b (List.mem_flatMap.2 ⟨L, hL, by rw [hb]; simp⟩) rfl⟩
  have hl := h.obs.len
  have hl1 := hd.1
  have hl2 := hrel.1
  have hlb : βs.length = obs2.length := by omega
  have live21 : ∀ {M}, (getOb obs2 M).live = true → getOb obs2 M = getOb obs1 M := fun {M} hm => by
    rcases hrel.2 M with q | ⟨e, l, q1, q2⟩ | ⟨kk, kv, m, q1, q2⟩
    · exact q
    · rw [q2] at hm; cases hm
    · rw [q2] at hm; cases hm
  have live10 : ∀ {M}, (getOb obs1 M).live = true → getOb obs1 M = getOb obs M := fun {M} hm => hd.live (fun e => by rw [e] at hm; cases hm)
  have own21 : ∀ {b}, Own βs obs2 b → Own βs obs1 b := by
    rintro b ⟨M, hM, m1, m2⟩
    exact ⟨M, hM, by rw [← live21 m1]; exact m1, m2⟩
  have own10 : ∀ {b}, Own βs obs1 b → Own βs obs b := fun hb => hd.own hb
  have hown' : ∀ {b}, Own (βs ++ vs) obs' b → Own βs obs2 b ∨ b ∈ own := by
    rintro b ⟨M, hM, m1, m2⟩
    rw [bv_app] at m2
    by_cases q : M < βs.length
    · rw [if_pos q] at m2
      by_cases qL : M ∈ Ls
      · exact .inr (hLo qL m2)
      · rw [hold M (by omega) qL] at m1
        exact .inl ⟨M, q, m1, m2⟩
    · rw [if_neg q] at m2
      right
      rw [List.length_append] at hM
      have hi : M - βs.length < vs.length := by omega
      refine hvs (List.mem_flatMap.2 ⟨vs[M - βs.length], List.getElem_mem hi, ?_⟩)
      have : bv vs (M - βs.length) = vs[M - βs.length] := by
        unfold bv; rw [List.getD_eq_getElem?_getD, List.getElem?_eq_getElem hi]; rfl
      rw [this] at m2
      rw [m2]; simp
  have hgown : ∀ {b}, b ∈ gs → Own βs obs b := fun hb => (hgs _ hb).1
  have hF : ∀ b, Fz B βs obs w b → Fz B (βs ++ vs) obs' w' b ∧ w'.heap[b]? = w.heap[b]? := fun b hb => by
    have h1 := h.notOwn hb
    refine ⟨?_, hblk b h1.1 (fun hg => h1.2 (hgown hg))⟩
    rcases hb with hb | hb
    · exact .inl hb
    · refine .inr ⟨hb.1, Nat.lt_of_lt_of_le hb.2.1 hsz, fun hn => ?_⟩
      rcases hown' hn with q | q
      · exact hb.2.2 (own10 (own21 q))
      · rcases (hvb b q).1 with q1 | q1
        · omega
        · exact hb.2.2 (hgown q1)
  have hFF : ∀ b, F' b → Fz B (βs ++ vs) obs' w' b := fun b hb => by
    rcases hF' b hb with q | q | q
    · exact (hF b q).1
    · have q1 := h.own b (own10 q.1)
      refine .inr ⟨q1.1, Nat.lt_of_lt_of_le q1.2 hsz, fun hn => ?_⟩
      rcases hown' hn with q2 | q2
      · exact q.2 q2
      · rcases (hvb b q2).1 with q3 | q3
        · omega
        · exact (hgs b q3).2 q.1
    · refine .inr ⟨?_, q.2.1, fun hn => ?_⟩
      · rcases q.1 with q1 | q1
        · exact .inl (Nat.le_trans h.base q1)
        · exact (h.own b (hgown q1)).1
      · rcases hown' hn with q2 | q2
        · rcases q.1 with q1 | q1
          · have := (h.own b (own10 (own21 q2))).2; omega
          · exact (hgs b q1).2 (own21 q2)
        · exact q.2.2 q2
  refine ⟨⟨hos, htp, hout, hsz, fun b hb hn => hblk b hb (fun hg => hn (hgown hg)), by simp, fun L hL => by rw [bv_app, if_pos hL], by simp [hlb, hlen, hl'], fun b hb => ?_, fun M M' b hM hM' e1 e2 e3 e4 => ?_, fun M hM hw => ?_, fun M hM => ?_⟩, hFF⟩
  · rcases hown' hb with q | q
    · exact ⟨.inl (own10 (own21 q)), Nat.lt_of_lt_of_le (h.own b (own10 (own21 q))).2 hsz⟩
    · refine ⟨?_, (hvb b q).2⟩
      rcases (hvb b q).1 with q1 | q1
      · exact .inr q1
      · exact .inl (hgown q1)
  · rw [bv_app] at e3 e4
    rw [List.length_append] at hM hM'
    have memv : ∀ {N}, ¬ N < βs.length → N < βs.length + vs.length → bOf (bv vs (N - βs.length)) = some b → b ∈ blks vs := fun {N} h1 h2 h3 => by
      have hi : N - βs.length < vs.length := by omega
      have : bv vs (N - βs.length) = vs[N - βs.length] := by
        unfold bv; rw [List.getD_eq_getElem?_getD, List.getElem?_eq_getElem hi]; rfl
      rw [this] at h3
      exact List.mem_flatMap.2 ⟨_, List.getElem_mem hi, by rw [h3]; simp⟩
    have clash : ∀ {N}, N < βs.length → (getOb obs2 N).live = true → bOf (bv βs N) = some b → b ∈ own → False := fun {N} h1 h2 h3 h4 => by
      have q : Own βs obs2 b := ⟨N, h1, h2, h3⟩
      rcases (hvb b h4).1 with q1 | q1
      · have := (h.own b (own10 (own21 q))).2; omega
      · exact (hgs b q1).2 (own21 q)
    have live2 : ∀ {N}, N < βs.length → N ∉ Ls → (getOb obs' N).live = true → (getOb obs2 N).live = true ∧ (getOb obs N).live = true := fun {N} h1 h2 h3 => by
      rw [hold N (by omega) h2] at h3
      exact ⟨h3, by rw [← live10 (by rw [← live21 h3]; exact h3), ← live21 h3]; exact h3⟩
    by_cases q : M < βs.length <;> by_cases q' : M' < βs.length
    · rw [if_pos q] at e3; rw [if_pos q'] at e4
      by_cases qL : M ∈ Ls <;> by_cases qL' : M' ∈ Ls
      · exact h.inj M M' b q q' (hLs M qL).2.2.1 (hLs M' qL').2.2.1 e3 e4
      · exact (clash q' (live2 q' qL' e2).1 e4 (hLo qL e3)).elim
      · exact (clash q (live2 q qL e1).1 e3 (hLo qL' e4)).elim
      · exact h.inj M M' b q q' (live2 q qL e1).2 (live2 q' qL' e2).2 e3 e4
    · rw [if_pos q] at e3; rw [if_neg q'] at e4
      have hm := memv q' hM' e4
      by_cases qL : M ∈ Ls
      · exact (hap.2 qL e3 hm).elim
      · exact (clash q (live2 q qL e1).1 e3 (hvs hm)).elim
    · rw [if_pos q'] at e4; rw [if_neg q] at e3
      have hm := memv q hM e3
      by_cases qL : M' ∈ Ls
      · exact (hap.2 qL e4 hm).elim
      · exact (clash q' (live2 q' qL e2).1 e4 (hvs hm)).elim
    · rw [if_neg q] at e3; rw [if_neg q'] at e4
      have nd : ∀ (vs : List Value) (i j : Nat), i < vs.length → j < vs.length → (vs.flatMap fun v => (bOf v).toList).Nodup → bOf (bv vs i) = some b → bOf (bv vs j) = some b → i = j := by
        intro vs
        induction vs with
        | nil => intro i j hi; cases hi
        | cons v vs ih =>
          intro i j hi hj hn h1 h2
          rw [List.flatMap_cons, List.nodup_append] at hn
          have far : ∀ {k}, k < vs.length → bOf (bv vs k) = some b → b ∈ (vs.flatMap fun v => (bOf v).toList) := fun {k} hk hb => by
            have : bv vs k = vs[k] := by unfold bv; rw [List.getD_eq_getElem?_getD, List.getElem?_eq_getElem hk]; rfl
            rw [this] at hb
            exact List.mem_flatMap.2 ⟨_, List.getElem_mem hk, by rw [hb]; simp⟩
          cases i with
          | zero =>
            cases j with
            | zero => rfl
            | succ j =>
              have h1 : bOf v = some b := h1
              have h2 : bOf (bv vs j) = some b := h2
              exact (hn.2.2 b (by rw [h1]; simp) b (far (by simpa using hj) h2) rfl).elim
          | succ i =>
            cases j with
            | zero =>
              have h2 : bOf v = some b := h2
              have h1 : bOf (bv vs i) = some b := h1
              exact (hn.2.2 b (by rw [h2]; simp) b (far (by simpa using hi) h1) rfl).elim
            | succ j => rw [ih i j (by simpa using hi) (by simpa using hj) hn.2.1 h1 h2]
      have := nd vs (M - βs.length) (M' - βs.length) (by omega) (by omega) hap.1 e3 e4
      omega
  · have hn : M ∉ Ls := fun q => by rw [(hLs M q).2.1] at hw; cases hw
    rw [hold M (by omega) hn]
    exact hlock M (by omega) hw
  · rw [bv_app]
    by_cases qL : M ∈ Ls
    · rw [if_pos (hLs M qL).1]
      obtain ⟨cs, c1, c2⟩ := hbox M qL
      rw [c1]
      exact c2.mono (fun b hb => ⟨hFF b hb, rfl⟩) (Nat.le_refl _) (fun _ _ => rfl) (fun _ _ _ => rfl)
    by_cases q : M < βs.length
    · rw [if_pos q, hold M (by omega) qL]
      have hr := h.obs.rep M q
      have hbx : ∀ L, L < βs.length → bv (βs ++ vs) L = bv βs L := fun L hL => by rw [bv_app, if_pos hL]
      have hle : βs.length ≤ (βs ++ vs).length := by simp
      have own1 : (getOb obs1 M).live = true → ∀ b, bOf (bv βs M) = some b → w'.heap[b]? = w.heap[b]? := fun hlv b hb => by
        have q1 : Own βs obs1 b := ⟨M, q, hlv, hb⟩
        exact hblk b (h.own b (own10 q1)).2 (fun hg => (hgs b hg).2 q1)
      rcases hrel.2 M with q1 | ⟨e, l, q1, q2⟩ | ⟨kk, kv, m, q1, q2⟩
      · rw [q1]
        rcases hd.2 M with q3 | q3
        · rw [q3]
          exact hr.mono hF hle hbx (fun b hlv hb => own1 (by rw [q3]; exact hlv) b hb)
        · rw [q3]; trivial
      · rw [q2]
        have q3 : getOb obs M = .arr e l := by rw [← live10 (by rw [q1]; rfl), q1]
        rw [q3] at hr
        have hr' := hr.mono (βs' := βs ++ vs) hF hle hbx (fun b _ hb => own1 (by rw [q1]; rfl) b hb)
        refine arr_reads hr' (fun b hb => hb) (fun b hb => ?_)
        have q4 : Own βs obs1 b := ⟨M, q, by rw [q1]; rfl, hb⟩
        have q5 := h.own b (own10 q4)
        refine .inr ⟨q5.1, Nat.lt_of_lt_of_le q5.2 hsz, fun hn => ?_⟩
        rcases hown' hn with q6 | q6
        · obtain ⟨N, hN, n1, n2⟩ := q6
          have l1 : (getOb obs N).live = true := by rw [← live10 (by rw [← live21 n1]; exact n1), ← live21 n1]; exact n1
          have := h.inj M N b q hN (by rw [q3]; rfl) l1 hb n2
          subst this
          rw [q2] at n1; cases n1
        · rcases (hvb b q6).1 with q7 | q7
          · omega
          · exact (hgs b q7).2 q4
      · rw [q2]
        have q3 : getOb obs M = .map kk kv m := by rw [← live10 (by rw [q1]; rfl), q1]
        rw [q3] at hr
        have hr' := hr.mono (βs' := βs ++ vs) hF hle hbx (fun b _ hb => own1 (by rw [q1]; rfl) b hb)
        refine map_reads hr' (fun b hb => hb) (fun b hb => ?_)
        have q4 : Own βs obs1 b := ⟨M, q, by rw [q1]; rfl, hb⟩
        have q5 := h.own b (own10 q4)
        refine .inr ⟨q5.1, Nat.lt_of_lt_of_le q5.2 hsz, fun hn => ?_⟩
        rcases hown' hn with q6 | q6
        · obtain ⟨N, hN, n1, n2⟩ := q6
          have l1 : (getOb obs N).live = true := by rw [← live10 (by rw [← live21 n1]; exact n1), ← live21 n1]; exact n1
          have := h.inj M N b q hN (by rw [q3]; rfl) l1 hb n2
          subst this
          rw [q2] at n1; cases n1
        · rcases (hvb b q6).1 with q7 | q7
          · omega
          · exact (hgs b q7).2 q4
    · rw [if_neg q]
      rw [List.length_append] at hM
      have hi : M - βs.length < vs.length := by omega
      obtain ⟨n1, n2⟩ := hnew (M - βs.length) (by omega) hi
      have g1 : getOb obs' M = news[M - βs.length] := by
        have := hnw (M - βs.length) (by omega)
        rw [← hlb, show βs.length + (M - βs.length) = M by omega] at this
        rw [this]
        unfold getOb; rw [List.getD_eq_getElem?_getD, List.getElem?_eq_getElem (by omega)]; rfl
      have g2 : bv vs (M - βs.length) = vs[M - βs.length] := by
        unfold bv; rw [List.getD_eq_getElem?_getD, List.getElem?_eq_getElem hi]; rfl
      rw [g1, g2]
      exact n2.mono (fun b hb => ⟨hFF b hb, rfl⟩) (Nat.zero_le _) (fun _ q => by cases q) (fun _ _ _ => rfl)

end Go.Proofs.YtbliiipcjbmbiaaGreatDoor.Ev

namespace Go.Proofs.YtbliiipcjbmbiaaGreatDoor.Ev
open Go.RowKit
set_option linter.unusedVariables false
set_option linter.unusedSimpArgs false

variable {P : Program} {J : Inv} {Γ : Ctx} {B : Base} {C : LBase} {βs : List Value} {st : St} {a : Act} {w w' : World} {obs obs' obs1 obs2 : List Ob} {wr : Nat → Bool} {tv : TV}

theorem RetsRep.flat_ {F F' : Nat → Prop} : ∀ {rs : List Lm} {y : OT rs} {vs : List Value}, rs.all Lm.flat = true → RetsRep w F rs y vs → RetsRep w F' rs y vs ∧ ownVals rs vs = []
  | [], y, vs, _, h => by
    have h : vs = [] := h
    subst h; exact ⟨rfl, rfl⟩
  | [.val k], y, _, hf, ⟨v, rfl, h⟩ => ⟨⟨v, rfl, RdV.flat_ (by simpa [Lm.flat] using hf) h⟩, rfl⟩
  | [.own e], y, _, hf, ⟨v, rfl, h⟩ => by simp [Lm.flat] at hf
  | .val k :: p :: os, y, _, hf, ⟨v, r, rfl, h1, h2⟩ => by
    rw [List.all_cons, Bool.and_eq_true] at hf
    obtain ⟨g1, g2⟩ := RetsRep.flat_ hf.2 h2
    exact ⟨⟨v, r, rfl, RdV.flat_ hf.1 h1, g1⟩, g2⟩
  | .own e :: p :: os, y, _, hf, ⟨v, r, rfl, h1, h2⟩ => by
    rw [List.all_cons, Bool.and_eq_true] at hf
    cases hf.1

theorem tvOf_rep {F S : Nat → Prop} {rvs : List RV} {vs : List Value} (hl : rvs.length = vs.length) (hr : ∀ (i : Nat) (h1 : i < rvs.length) (h2 : i < vs.length), RVRep w F βs rvs[i] vs[i]) : TVRep P J w F S βs (tvOf rvs) (tupV vs) := by
  have gen : ∀ (rvs : List RV) (vs : List Value), rvs.length = vs.length → (∀ (i : Nat) (h1 : i < rvs.length) (h2 : i < vs.length), RVRep w F βs rvs[i] vs[i]) → TVRep P J w F S βs (.tup rvs) (.tuple vs.toArray) := fun rvs vs hl hr =>
    ⟨_, rfl, by simp [hl], fun i hi => by
      have hi' : i < vs.length := by omega
      simpa [hi'] using hr i hi hi'⟩
  match rvs, vs, hl with
  | [], [], _ => exact gen [] [] rfl (fun i h => by cases h)
  | [r], [v], _ => exact RVRep.toTV (hr 0 (by simp) (by simp))
  | r :: r' :: rs, v :: v' :: vs, hl => exact gen _ _ hl hr

theorem callFn_ok (hΓ : CtxOK P J Γ) (hB : B.Ok J) (h : Rep' P J B βs obs w) (hI : J.I w) {g k : Nat} {F : Fn} (hg : FnOK P J g F) {tvs : List TV} {vals : List Value} (ht : TVs P J B βs obs w tvs vals)
    (hm : moved wr F.ps tvs obs = some obs1) {xs : PT F.ps} (hx : argsOf Γ k F.ps tvs obs obs1 = some xs) (hl : (if F.rs.all Lm.flat then some obs1 else lent wr F.ps tvs obs1) = some obs2) {y : OT F.rs} (hy : F.f k xs = some y) :
    Calls P g vals.toArray w fun e w' => ∃ βs' v, e = .returned v ∧ Step B βs obs wr w βs' (back F.rs y obs2).2 w' ∧ TVRep P J w' (Fz B βs' (back F.rs y obs2).2 w') B.S βs' (tvOf (back F.rs y obs2).1) v := by
  obtain ⟨hd, hlk, hnd, hgs, _, _⟩ := moved_ok h ⟨rfl, fun _ => .inl rfl⟩ (fun _ hb => hb) hm ht (fun _ _ _ => rfl)
  have hrel : FrzRel obs1 obs2 ∧ (∀ M, wr M = false → getOb obs2 M = getOb obs1 M) ∧ (F.rs.all Lm.flat = true ∨ ∃ o1, FrzRel obs1 o1 ∧ lent wr F.ps tvs o1 = some obs2) := by
    split at hl
    · rename_i hf
      cases hl; exact ⟨FrzRel.refl _, fun _ _ => rfl, .inl hf⟩
    · obtain ⟨q1, q2⟩ := lent_rel hl
      exact ⟨q1, q2, .inr ⟨obs1, FrzRel.refl _, hl⟩⟩
  obtain ⟨hrel, hlk2, hlent⟩ := hrel
  let flat := F.rs.all Lm.flat
  let gs := ownBs F.ps vals
  let B2 : Base := ⟨w, fun b => b ∈ gs, CF B βs obs obs1 obs2 flat w⟩
  have hgs' : ∀ b ∈ gs, Own βs obs b ∧ ¬ Own βs obs1 b := hgs
  have hcf : ∀ b, CF B βs obs obs1 obs2 flat w b → b < w.heap.size ∧ b ∉ gs := fun b hb => by
    rcases hb with hb | hb
    · have := h.notOwn hb
      exact ⟨this.1, fun q => this.2 (hgs' b q).1⟩
    · exact ⟨(h.own b (hd.own hb.1)).2, fun q => (hgs' b q).2 hb.1⟩
  have hB2 : B2.Ok J := ⟨hcf, hI, Nat.le_trans hB.gz h.base, fun b hb hq => by
    rcases (h.own b (hgs' b hq).1).1 with q | q
    · have := hB.gz; omega
    · exact hB.gzG b hb q⟩
  have hS : ∀ b, B.S b → B2.S b := fun b hb => ⟨Nat.lt_of_lt_of_le hb.1 h.base, fun q => by
    rcases (h.own b (hgs' b q).1).1 with q1 | q1
    · have := hb.1; omega
    · exact hb.2 q1⟩
  have hFz : ∀ b, Fz B βs obs w b → B2.S b := fun b hb => by
    have := h.notOwn hb
    exact ⟨this.1, fun q => this.2 (hgs' b q).1⟩
  have hFS : ∀ b, Own βs obs1 b → B2.S b := fun b hb => ⟨(h.own b (hd.own hb)).2, fun q => (hgs' b q).2 hb⟩
  have hargs := argsOf_rep (S' := B2.S) (flat := flat) hΓ h hd hrel hS hFz (fun b hb => hb.1) hFS ht hx hlent
  have hcall := hg.ok k B2 vals xs y hB2 hargs hnd (fun b hb => ⟨hb, (h.own b (hgs' b hb).1).2⟩) hy
  refine hcall.mono fun e w' hp => ?_
  obtain ⟨vs, rfl, hret, hnd2, hown2, hext⟩ := hp
  rw [ownRs_vals] at hnd2 hown2 hret
  -- what the results may be read of
  have hfin : ∃ F', RetsRep w' F' F.rs y vs ∧ ∀ b, F' b → (Fz B βs obs w b ∨ (Own βs obs1 b ∧ ¬ Own βs obs2 b) ∨ ((w.heap.size ≤ b ∨ b ∈ gs) ∧ b < w'.heap.size ∧ b ∉ ((ownVals F.rs vs).flatMap fun v => (bOf v).toList))) := by
    cases hfl : flat with
    | true => exact ⟨fun _ => False, (RetsRep.flat_ hfl hret).1, fun b hb => hb.elim⟩
    | false =>
      refine ⟨_, hret, fun b hb => ?_⟩
      rcases hb with (hb | hb) | hb
      · exact .inl hb
      · rcases hb.2 with q | q
        · rw [hfl] at q; cases q
        · exact .inr (.inl ⟨hb.1, q⟩)
      · exact .inr (.inr hb)
  obtain ⟨F', hret', hF'⟩ := hfin
  obtain ⟨o1, o2⟩ := ownObs_rep hret'
  obtain ⟨hstep, hFF⟩ := Rep'.called (wr := wr) h hd hrel (fun M hM hw => (hlk2 M hw).trans (hlk M hM hw)) hgs' hext.os hext.tape hext.output hext.size (fun b hb hn => hext.block b hb hn) o1 hnd2 hown2 o2 hF'
  have hbl : βs.length = obs2.length := by rw [h.obs.len, ← hd.1, ← hrel.1]
  rw [back_obs]
  obtain ⟨b1, b2⟩ := back_rep (obs := obs2) (βs := βs) (βf := βs ++ ownVals F.rs vs) hFF hret' (fun _ _ => .inr hFF) hbl (fun i hi => by
    rw [bv_app, if_neg (by omega), Nat.add_sub_cancel_left]; rfl) (Nat.le_refl _)
  exact ⟨_, _, rfl, hstep, tvOf_rep b1 b2⟩

/-! ### any operation -/
theorem constTV_rep {F S : Nat → Prop} (v : Value) : TVRep P J w F S βs (constTV v) v := by
  unfold constTV
  split
  · exact mk_int _ _
  · exact mk_bool _
  · exact mk_str _
  · rfl
  · exact ⟨rfl, [.pointer none], by simp [valCells, Kd.isAgg], none, rfl, rfl⟩
  · rfl
  · trivial
theorem Rep.ev (h : Rep P J B C βs st a w) (x : Operand) : TR P J B βs st.obs w (st.ev x) (a.eval x) := by
  cases x with
  | tmp t => exact h.tmps t
  | const v => exact constTV_rep v
  | func f => exact ⟨fun L hL => (by cases hL), rfl⟩
  | global g => trivial

theorem TVs.of {ρ : Operand → TV} {ρ' : Operand → Value} (hρ : ∀ x, TR P J B βs obs w (ρ x) (ρ' x)) : ∀ (l : List Operand), TVs P J B βs obs w (l.map ρ) (l.map ρ')
  | [] => rfl
  | x :: r => ⟨_, _, rfl, hρ x, TVs.of hρ r⟩

/-- what is known behind an operation -/

def OpGives (P : Program) (J : Inv) (B : Base) (βs : List Value) (obs : List Ob) (wr : Nat → Bool) (w : World) (s : Sem Next) (tv : TV) (obs' : List Ob) : Prop :=
  (∃ v w', s.run P w = .ok (.value v) w' ∧ Behind P J B βs obs wr w tv obs' v w') ∨
  (∃ w', s.run P w = .ok .skip w' ∧ Behind P J B βs obs wr w tv obs' undef w') ∨
  ∃ f args, s.run P w = .ok (.enter f args) w ∧ Calls P f args w fun e w' => ∃ v, e = .returned v ∧ Behind P J B βs obs wr w tv obs' v w'
theorem Gives.op {s : Sem Value} (h : Gives P J B βs obs wr w s tv obs') : OpGives P J B βs obs wr w (do pure (.value (← s))) tv obs' := by
  obtain ⟨b, v, w', h1, h2, h3⟩ := h
  exact .inl ⟨v, w', by simp [h1], b, h2, h3⟩
theorem GivesU.op {s : Sem Unit} (h : GivesU P J B βs obs wr w s tv obs') : OpGives P J B βs obs wr w (do s; pure .skip) tv obs' := by
  obtain ⟨b, w', h1, h2, h3⟩ := h
  exact .inr (.inl ⟨w', by simp [h1], b, h2, by rw [h3]; rfl⟩)

theorem labelsOf_rep {ρ : Operand → TV} {ρ' : Operand → Value} (hρ : ∀ x, TR P J B βs obs w (ρ x) (ρ' x)) : ∀ {l : List Operand} {ls : List Nat}, labelsOf (l.map ρ) = some ls →
    (∀ L ∈ ls, L < βs.length ∧ ∃ b, bv βs L = .pointer (some ⟨b, 0, none⟩)) ∧ l.map ρ' = ls.map (bv βs)
  | [], ls, h => by cases h; exact ⟨fun L hL => (by cases hL), rfl⟩
  | x :: r, ls, h => by
    simp only [List.map_cons, labelsOf] at h
    split at h
    · rename_i L ls' hL hls
      cases h
      obtain ⟨g1, g2⟩ := labelsOf_rep hρ hls
      have := hρ x
      have h1 : ρ x = .ptr L 0 := by
        unfold labelOf at hL
        split at hL
        · rename_i heq; cases hL; exact heq
        · cases hL
      rw [h1] at this
      obtain ⟨q1, b, q2, q3⟩ := this
      refine ⟨fun M hM => ?_, by rw [List.map_cons, List.map_cons, g2, q3, q2]⟩
      rcases List.mem_cons.1 hM with rfl | hM
      · exact ⟨q1, b, q2⟩
      · exact g1 M hM
    · cases h

theorem enter_run {g : Nat} {args : Array Value} (h : ∃ fn, P.funcs[g]? = some fn ∧ fn.body.isSome = true ∧ (fn.name == "runtime.NumGoroutine") = false) : (callFunc g args).run P w = .ok (.enter g args) w := by
  obtain ⟨fn, h1, h2, h3⟩ := h
  obtain ⟨c, hc⟩ := Option.isSome_iff_exists.1 h2
  exact Go.Proofs.enters_of h1 h3 hc args w

theorem parts_rep {ρ : Operand → TV} {ρ' : Operand → Value} (hρ : ∀ x, TR P J B βs obs w (ρ x) (ρ' x)) (ps : List (Nat × Operand)) :
    (ps.map fun p => (p.1, ρ p.2)).length = (ps.map fun p => (p.1, ρ' p.2)).length ∧ ∀ (j : Nat) (h1 : j < (ps.map fun p => (p.1, ρ p.2)).length) (h2 : j < (ps.map fun p => (p.1, ρ' p.2)).length),
      (ps.map fun p => (p.1, ρ p.2))[j].1 = (ps.map fun p => (p.1, ρ' p.2))[j].1 ∧ TR P J B βs obs w (ps.map fun p => (p.1, ρ p.2))[j].2 (ps.map fun p => (p.1, ρ' p.2))[j].2 := by
  refine ⟨by simp, fun j h1 h2 => ?_⟩
  simp only [List.getElem_map]
  exact ⟨trivial, hρ _⟩

theorem evCallFn_ok (hΓ : CtxOK P J Γ) (hB : B.Ok J) (h : Rep' P J B βs obs w) (hI : J.I w) {k g : Nat} {tvs : List TV} {vals : List Value} (ht : TVs P J B βs obs w tvs vals) (he : (evCallFn Γ wr k g tvs obs).To (tv, obs')) :
    (∃ fn, P.funcs[g]? = some fn ∧ fn.body.isSome = true ∧ (fn.name == "runtime.NumGoroutine") = false) ∧ Calls P g vals.toArray w fun e w' => ∃ v, e = .returned v ∧ Behind P J B βs obs wr w tv obs' v w' := by
  unfold evCallFn at he
  split at he
  · exact (Res.to_fail he).elim
  · rename_i F hF
    split at he
    · exact (Res.to_fail he).elim
    · rename_i obs1 hm
      split at he
      · rename_i xs obs2 hx hl
        obtain ⟨y, hy, he⟩ := Res.to_bind he
        obtain ⟨rfl, rfl⟩ := Res.to_nowV he
        have hg := hΓ.fn _ _ hF
        exact ⟨hg.enters, (callFn_ok hΓ hB h hI hg ht hm hx hl hy).mono fun e w' ⟨b, v, h1, h2, h3⟩ => ⟨v, h1, b, h2, h3⟩⟩
      · exact (Res.to_fail he).elim

/-- memory has only grown -/
theorem Rep'.grown (h : Rep' P J B βs obs w) {wr : Nat → Bool} (hb : Below w.heap.size w w') : Step B βs obs wr w βs obs w' := by
  have hF : ∀ b, Fz B βs obs w b → Fz B βs obs w' b ∧ w'.heap[b]? = w.heap[b]? := fun b hbz => by
    have h1 := h.notOwn hbz
    refine ⟨?_, hb.block b h1.1⟩
    rcases hbz with q | q
    · exact .inl q
    · exact .inr ⟨q.1, Nat.lt_of_lt_of_le q.2.1 hb.size, q.2.2⟩
  exact ⟨hb.os, hb.tape, hb.output, hb.size, fun b hlt _ => hb.block b hlt, Nat.le_refl _, fun _ _ => rfl, h.obs.len, fun b ho => ⟨.inl ho, Nat.lt_of_lt_of_le (h.own b ho).2 hb.size⟩, h.inj, fun _ _ _ => rfl,
    fun L hL => (h.obs.rep L hL).mono hF (Nat.le_refl _) (fun _ _ => rfl) (fun b hl hbv => hb.block b (h.own b ⟨L, hL, hl, hbv⟩).2)⟩

/-- an array of the call's own that is written in place -/
theorem Rep'.inplace (h : Rep' P J B βs obs w) {wr : Nat → Bool} {L : Nat} {e : Kd} {l l' : List e.T} (ho : getOb obs L = .arr e l) (hw : wr L = true) (hos : w'.os = w.os) (htp : w'.tape = w.tape) (hout : w'.output = w.output) (hsz : w.heap.size ≤ w'.heap.size)
    (hblk : ∀ b, b < w.heap.size → bOf (bv βs L) ≠ some b → w'.heap[b]? = w.heap[b]?) (hr : ObRep w' (Fz B βs obs w) [] (bv βs L) (.arr e l')) : Step B βs obs wr w βs (obs.set L (.arr e l')) w' := by
  have hlen := h.obs.len
  have hL : L < obs.length := getOb_live_lt (by rw [ho]; rfl)
  have hLb : L < βs.length := by omega
  have hlive : ∀ M, (getOb (obs.set L (.arr e l')) M).live = (getOb obs M).live := fun M => by
    rw [getOb_set hL]
    by_cases q : L = M
    · subst q; rw [if_pos rfl, ho]; rfl
    · rw [if_neg q]
  have hown : ∀ b, Own βs (obs.set L (.arr e l')) b → Own βs obs b := by
    rintro b ⟨M, hM, h1, h2⟩
    exact ⟨M, hM, by rw [← hlive M]; exact h1, h2⟩
  have hnot : ∀ b, Fz B βs obs w b → bOf (bv βs L) ≠ some b := fun b hb q => (h.notOwn hb).2 ⟨L, hLb, by rw [ho]; rfl, q⟩
  have hF : ∀ b, Fz B βs obs w b → Fz B βs (obs.set L (.arr e l')) w' b ∧ w'.heap[b]? = w.heap[b]? := fun b hb => by
    refine ⟨?_, hblk b (h.notOwn hb).1 (hnot b hb)⟩
    rcases hb with q | q
    · exact .inl q
    · exact .inr ⟨q.1, Nat.lt_of_lt_of_le q.2.1 hsz, fun hn => q.2.2 (hown b hn)⟩
  refine ⟨hos, htp, hout, hsz, fun b hb hn => hblk b hb fun q => hn ⟨L, hLb, by rw [ho]; rfl, q⟩, Nat.le_refl _, fun _ _ => rfl, by simpa using hlen, fun b hb => ⟨.inl (hown b hb), Nat.lt_of_lt_of_le (h.own b (hown b hb)).2 hsz⟩, fun M M' b hM hM' h1 h2 h3 h4 => ?_, fun M hM hwM => ?_, fun M hM => ?_⟩
  · rw [hlive] at h1 h2
    exact h.inj M M' b hM hM' h1 h2 h3 h4
  · rw [getOb_set hL, if_neg]
    rintro rfl
    rw [hw] at hwM; cases hwM
  · rw [getOb_set hL]
    by_cases q : L = M
    · subst q
      rw [if_pos rfl]
      exact hr.mono (fun b hb => ⟨(hF b hb).1, rfl⟩) (Nat.zero_le _) (fun _ q => by cases q) (fun _ _ _ => rfl)
    · rw [if_neg q]
      refine (h.obs.rep M hM).mono hF (Nat.le_refl _) (fun _ _ => rfl) (fun b hl hbv => ?_)
      have ho' : Own βs obs b := ⟨M, hM, hl, hbv⟩
      exact hblk b (h.own b ho').2 fun q2 => q (h.inj L M b hLb hM (by rw [ho]; rfl) hl q2 hbv)
theorem fnsOf_rep : ∀ {tvs : List TV} {vals : List Value} {gs : List Nat}, TVs P J B βs obs w tvs vals → fnsOf tvs = some gs → vals = gs.map fun g => Value.func (.func g) #[] #[]
  | [], vals, gs, ht, hf => by
    have ht : vals = [] := ht
    subst ht
    cases hf; rfl
  | tv :: r, vals, gs, ht, hf => by
    obtain ⟨v, vr, rfl, h1, h2⟩ := ht
    unfold fnsOf at hf
    split at hf
    · rename_i heq; cases heq
    · rename_i g r' heq
      obtain ⟨rfl, rfl⟩ := List.cons.inj heq
      split at hf
      · rename_i gs' hgs
        cases hf
        rw [List.map_cons, ← fnsOf_rep h2 hgs]
        rw [show v = _ from h1.2]
        rfl
      · cases hf
    · cases hf
theorem evCallIo_ok (hΓ : CtxOK P J Γ) (hB : B.Ok J) (h : Rep' P J B βs obs w) (hI : J.I w) {k g : Nat} {F : IoFn} (hg : IoOK P J g F) {tvs : List TV} {vals : List Value} (ht : TVs P J B βs obs w tvs vals) (he : (evCallIo Γ wr k F tvs obs).To (tv, obs')) :
    Calls P g vals.toArray w fun e w' => ∃ v, e = .returned v ∧ Behind P J B βs obs wr w tv obs' v w' := by
  unfold evCallIo at he
  cases tvs with
  | nil => exact (Res.to_fail he).elim
  | cons tv0 r =>
  obtain ⟨v, vr, rfl, ht0, htr⟩ := ht
  dsimp only at he
  cases hfn : fnsOf r with
  | none => rw [hfn] at he; exact (Res.to_fail he).elim
  | some gs =>
  rw [hfn] at he
  dsimp only at he
  obtain rfl := fnsOf_rep htr hfn
  let B2 : Base := ⟨w, fun b => bOf v = some b, Fz B βs obs w⟩
  have nil_case : v = .slice none 0 0 → ∀ l', F.f k [] gs = some l' → Calls P g (v :: gs.map fun g => Value.func (.func g) #[] #[]).toArray w fun e w' => ∃ v, e = .returned v ∧ Behind P J B βs obs wr w (.tup []) obs v w' := fun hv l' hy => by
    have hB2 : B2.Ok J := ⟨fun b hb => ⟨(h.notOwn hb).1, fun q => by
      have q : bOf v = some b := q
      rw [hv] at q; cases q⟩, hI, Nat.le_trans hB.gz h.base, fun b hb q => by
      have q : bOf v = some b := q
      rw [hv] at q; cases q⟩
    refine (hg.ok k B2 (Fz B βs obs w) v [] gs l' hB2 hB2.f0 (.inl ⟨hv, rfl⟩) (fun b q => by rw [hv] at q; cases q) hy).mono fun e w' ⟨h1, hext, _⟩ => ?_
    exact ⟨_, h1, βs, h.grown ⟨hext.os, hext.tape, hext.output, hext.size, fun b hb' => hext.block b hb' (fun q => by
      have q : bOf v = some b := q
      rw [hv] at q; cases q)⟩, ⟨#[], rfl, rfl, fun i hi => by cases hi⟩⟩
  cases tv0 with
  | arr L =>
    dsimp only at he
    cases hwr : wr L with
    | false => rw [hwr] at he; exact (Res.to_fail he).elim
    | true =>
    rw [hwr] at he
    split at he
    rotate_left
    · exact (Res.to_fail he).elim
    rename_i e' l0 _ ho
    split at he
    rotate_left
    · exact (Res.to_fail he).elim
    rename_i l hc
    obtain ⟨l', hy, he⟩ := Res.to_bind he
    obtain ⟨rfl, rfl⟩ := Res.to_nowV he
    obtain ⟨he0, hle⟩ := cast_slice hc
    subst he0
    obtain rfl : l0 = l := hle
    obtain ⟨hLb, hvL⟩ := ht0
    subst hvL
    have hown : ∀ b, bOf (bv βs L) = some b → Own βs obs b := fun b q => ⟨L, hLb, by rw [ho]; rfl, q⟩
    have hB2 : B2.Ok J := ⟨fun b hb => ⟨(h.notOwn hb).1, fun q => (h.notOwn hb).2 (hown b q)⟩, hI, Nat.le_trans hB.gz h.base, fun b hb q => by
      rcases (h.own b (hown b q)).1 with q | q
      · have := hB.gz; omega
      · exact hB.gzG b hb q⟩
    have hrep := h.obs.rep L hLb
    rw [ho] at hrep
    have hrep0 : ObRep w (Fz B βs obs w) [] (bv βs L) (.arr F.e l0) := by
      rcases hrep with q | q
      · exact .inl q
      · exact .inr q
    refine (hg.ok k B2 (Fz B βs obs w) (bv βs L) l0 gs l' hB2 hB2.f0 hrep0 (fun b q => ⟨q, (h.own b (hown b q)).2⟩) hy).mono fun e w' ⟨h1, hext, h2⟩ => ?_
    exact ⟨_, h1, βs, h.inplace ho hwr hext.os hext.tape hext.output hext.size (fun b hb hn => hext.block b hb hn) h2, ⟨#[], rfl, rfl, fun i hi => by cases hi⟩⟩
  | nil =>
    obtain ⟨l', hy, he⟩ := Res.to_bind he
    obtain ⟨rfl, rfl⟩ := Res.to_nowV he
    exact nil_case ht0 l' hy
  | nilk e =>
    obtain ⟨l', hy, he⟩ := Res.to_bind he
    obtain ⟨rfl, rfl⟩ := Res.to_nowV he
    exact nil_case ht0 l' hy
  | _ => exact (Res.to_fail he).elim

theorem cloArg_rep {F' : Nat → Prop} (h : Rep' P J B βs obs w) (hF : ∀ b, FO B βs obs w b → F' b) {a : Kd} {tvs : List TV} {vals : List Value} {x : a.T} (ht : TVs P J B βs obs w tvs vals) (hx : cloArg a tvs obs = some x) : CloArgs w F' a vals x := by
  unfold cloArg at hx
  split at hx
  · obtain ⟨v, r, rfl, h1, h2⟩ := ht
    have h2 : r = [] := h2
    subst h2
    have hv := RdV.mono (fun b hb => ⟨hF b hb, rfl⟩) (toVal_rep h.obs h1 hx)
    cases a with
    | pair p q => cases hv.1
    | _ => exact ⟨v, rfl, hv⟩
  · obtain ⟨v, r, rfl, h1, v', r', rfl, h2, h3⟩ := ht
    have h3 : r' = [] := h3
    subst h3
    split at hx
    · split at hx
      · rename_i u u' e1 e2
        cases hx
        exact ⟨v, v', rfl, RdV.mono (fun b hb => ⟨hF b hb, rfl⟩) (toVal_rep h.obs h1 e1), RdV.mono (fun b hb => ⟨hF b hb, rfl⟩) (toVal_rep h.obs h2 e2)⟩
      · cases hx
    · cases hx
  · cases hx

/-! ### calls that change variables of the caller -/
theorem killObs_ok : ∀ {Ls : List Nat} {obs : List Ob}, (∀ L ∈ Ls, L < obs.length) → (killObs Ls obs).length = obs.length ∧ (∀ M ∈ Ls, getOb (killObs Ls obs) M = .dead) ∧ ∀ M, M ∉ Ls → getOb (killObs Ls obs) M = getOb obs M
  | [], obs, _ => ⟨rfl, by simp, fun _ _ => rfl⟩
  | L :: r, obs, h => by
    have hL := h L (List.mem_cons_self ..)
    obtain ⟨g1, g2, g3⟩ := killObs_ok (Ls := r) (obs := obs.set L .dead) (fun M hM => by simpa using h M (List.mem_cons_of_mem _ hM))
    have hs : ∀ M, getOb (obs.set L .dead) M = if L = M then .dead else getOb obs M := fun M => getOb_set hL
    refine ⟨by rw [show killObs (L :: r) obs = killObs r (obs.set L .dead) from rfl, g1]; simp, fun M hM => ?_, fun M hM => ?_⟩
    · show getOb (killObs r (obs.set L .dead)) M = .dead
      by_cases q : M ∈ r
      · exact g2 M q
      · rw [g3 M q, hs]
        rcases List.mem_cons.1 hM with rfl | hM
        · rw [if_pos rfl]
        · exact absurd hM q
    · show getOb (killObs r (obs.set L .dead)) M = getOb obs M
      rw [g3 M (fun q => hM (List.mem_cons_of_mem _ q)), hs, if_neg]
      rintro rfl
      exact hM (List.mem_cons_self ..)
theorem boxesOf_len {ps : List XPm} {tvs : List TV} : ∀ {cs : List Nat} {i : Nat} {Ls : List Nat}, boxesOf ps tvs i cs = some Ls → Ls.length = cs.length
  | [], i, Ls, h => by cases h; rfl
  | c :: cs, i, Ls, h => by
    simp only [boxesOf] at h
    split at h
    · rename_i L Ls' _ h2
      cases h
      simp [boxesOf_len h2]
    · cases h
theorem zipN_fst : ∀ {Ls cs : List Nat}, Ls.length = cs.length → (zipN Ls cs).map (·.1) = Ls
  | [], [], _ => rfl
  | L :: r, c :: cs, h => by
    show L :: (zipN r cs).map (·.1) = _
    rw [zipN_fst (by simpa using h)]
  | [], _ :: _, h => by cases h
  | _ :: _, [], h => by cases h
def blkOf (βs : List Value) (L : Nat) : Nat := (bOf (bv βs L)).getD 0
theorem capsAgree_rep {Ls : List Nat} (hb : ∀ L ∈ Ls, bv βs L = ptrV (blkOf βs L)) : ∀ {is caps : List Nat}, capsAgree Ls is caps = true → is.map (fun i => (Ls.map (blkOf βs))[i]?) = (caps.map (blkOf βs)).map some ∧ caps.map (bv βs) = (caps.map (blkOf βs)).map ptrV
  | [], [], _ => ⟨rfl, rfl⟩
  | i :: is, L :: r, h => by
    simp only [capsAgree, Bool.and_eq_true] at h
    obtain ⟨h1, h2⟩ := h
    obtain ⟨g1, g2⟩ := capsAgree_rep hb h2
    split at h1
    · rename_i M hM
      have e : M = L := Nat.eq_of_beq_eq_true h1
      subst e
      have hm : M ∈ Ls := List.mem_of_getElem? hM
      refine ⟨?_, ?_⟩
      · rw [List.map_cons, g1, List.getElem?_map, hM]; rfl
      · rw [List.map_cons, g2, hb M hm]; rfl
    · cases h1
  | [], _ :: _, h => by cases h
  | _ :: _, [], h => by cases h
theorem boxesAgree_rep {Ls : List Nat} (hb : ∀ L ∈ Ls, bv βs L = ptrV (blkOf βs L)) : ∀ {ps : List XPm} {tvs : List TV} {vals : List Value}, TVs P J B βs obs w tvs vals → boxesAgree Ls ps tvs = true →
    ∃ pv, XArgs (Ls.map (blkOf βs)) ps vals pv ∧ TVs P J B βs obs w (plainTVs ps tvs) pv
  | [], [], vals, ht, _ => ⟨[], ⟨ht, rfl⟩, rfl⟩
  | .pl p :: ps, tv :: tvs, _, ⟨v, r, rfl, h1, h2⟩, hg => by
    obtain ⟨pv, g1, g2⟩ := boxesAgree_rep hb h2 hg
    exact ⟨v :: pv, ⟨v, r, pv, rfl, rfl, g1⟩, ⟨v, pv, rfl, h1, g2⟩⟩
  | .bx i :: ps, tv :: tvs, _, ⟨v, r, rfl, h1, h2⟩, hg => by
    simp only [boxesAgree, Bool.and_eq_true] at hg
    obtain ⟨hg1, hg2⟩ := hg
    obtain ⟨pv, g1, g2⟩ := boxesAgree_rep hb h2 hg2
    split at hg1
    · rename_i L hL
      have e : tv = .ptr L 0 := by
        unfold labelOf at hL
        split at hL
        · cases hL; rfl
        · cases hL
      subst e
      obtain ⟨c1, c2⟩ := capsAgree_rep hb hg1
      obtain ⟨q1, b, q2, q3⟩ := h1
      have hv : v = ptrV (blkOf βs L) := by
        rw [q3]; unfold blkOf; rw [q2]; rfl
      refine ⟨pv, ⟨blkOf βs L, r, ?_, by rw [hv], g1⟩, g2⟩
      simpa using c1
    · cases hg1
  | .clo g is :: ps, tv :: tvs, _, ⟨v, r, rfl, h1, h2⟩, hg => by
    simp only [boxesAgree, Bool.and_eq_true] at hg
    obtain ⟨hg1, hg2⟩ := hg
    obtain ⟨pv, g1, g2⟩ := boxesAgree_rep hb h2 hg2
    split at hg1
    · rename_i g' caps
      rw [Bool.and_eq_true] at hg1
      have e : g = g' := Nat.eq_of_beq_eq_true hg1.1
      subst e
      obtain ⟨c1, c2⟩ := capsAgree_rep hb hg1.2
      refine ⟨pv, ⟨caps.map (blkOf βs), r, c1, ?_, g1⟩, g2⟩
      rw [show v = _ from h1.2, c2]
    · cases hg1
  | [], _ :: _, _, _, hg => by cases hg
  | .pl _ :: _, [], _, _, hg => by cases hg
  | .bx _ :: _, [], _, _, hg => by cases hg
  | .clo _ _ :: _, [], _, _, hg => by cases hg
theorem BoxVals.go0 {βs' : List Value} : ∀ {Ls cs : List Nat} {vs : List Value} {i : Nat}, Ls.length = cs.length → (∀ j (h : j < Ls.length), bv βs' (i + j) = bv βs Ls[j]) → (BoxVals w βs (zipN Ls cs) vs ↔ BoxVals w βs' (cnts0 i cs) vs)
  | [], [], vs, i, _, _ => Iff.rfl
  | L :: r, c :: cs, vs, i, hl, hb => by
    have h0 := hb 0 (by simp)
    have ih : ∀ q, BoxVals w βs (zipN r cs) q ↔ BoxVals w βs' (cnts0 (i + 1) cs) q := fun q => BoxVals.go0 (by simpa using hl) fun j hj => by
      have := hb (j + 1) (by simpa using hj)
      rw [List.getElem_cons_succ] at this
      rw [← this]; congr 1; omega
    rw [Nat.add_zero, List.getElem_cons_zero] at h0
    show (∃ (b : Nat) (c' : Array Value) (t : TypeId) (fr : Nat × Nat) (q : List Value), vs = c'.toList ++ q ∧ bv βs L = _ ∧ _ ∧ _ ∧ _ ∧ BoxVals w βs (zipN r cs) q) ↔ (∃ (b : Nat) (c' : Array Value) (t : TypeId) (fr : Nat × Nat) (q : List Value), vs = c'.toList ++ q ∧ bv βs' i = _ ∧ _ ∧ _ ∧ _ ∧ BoxVals w βs' (cnts0 (i + 1) cs) q)
    rw [h0]
    constructor
    · rintro ⟨b, c', t, fr, q, e1, e2, e3, e4, e5, e6⟩
      exact ⟨b, c', t, fr, q, e1, e2, e3, e4, e5, (ih q).1 e6⟩
    · rintro ⟨b, c', t, fr, q, e1, e2, e3, e4, e5, e6⟩
      exact ⟨b, c', t, fr, q, e1, e2, e3, e4, e5, (ih q).2 e6⟩
  | [], _ :: _, _, _, h, _ => by cases h
  | _ :: _, [], _, _, h, _ => by cases h
theorem BoxVals.ptr : ∀ {cnts : List (Nat × Nat)} {vs : List Value}, BoxVals w βs cnts vs → ∀ p ∈ cnts, ∃ b, bv βs p.1 = ptrV b
  | [], _, _ => by simp
  | p :: r, vs, ⟨b, c, t, fr, q, e1, e2, e3, e4, e5, e6⟩ => by
    intro p' hp
    rcases List.mem_cons.1 hp with rfl | hp
    · exact ⟨b, e2⟩
    · exact BoxVals.ptr e6 p' hp
theorem PackRep.mono {F F' : Nat → Prop} {s : SV} {x : s.T} {v : Value} (hF : ∀ b, F b → F' b) (h : PackRep w F s x v) : PackRep w F' s x v := by
  cases s with
  | val k => exact RdV.mono (fun b hb => ⟨hF b hb, rfl⟩) h
  | arr e => exact ObRep.mono (βs := []) (βs' := []) (o := .arr e x) (fun b hb => ⟨hF b hb, rfl⟩) (Nat.le_refl _) (fun _ _ => rfl) (fun _ _ _ => rfl) h
  | map kk kv => exact ObRep.mono (βs := []) (βs' := []) (o := .map kk kv x) (fun b hb => ⟨hF b hb, rfl⟩) (Nat.le_refl _) (fun _ _ => rfl) (fun _ _ _ => rfl) h
theorem PacksRep.mono {F F' : Nat → Prop} (hF : ∀ b, F b → F' b) : ∀ {ss : List SV} {x : XT ss} {vs : List Value}, PacksRep w F ss x vs → PacksRep w F' ss x vs
  | [], _, _, h => h
  | [s], _, _, ⟨v, e, h⟩ => ⟨v, e, h.mono hF⟩
  | s :: t :: r, _, _, ⟨v, q, e, h1, h2⟩ => ⟨v, q, e, h1.mono hF, PacksRep.mono hF h2⟩
theorem PackRep.flat_ {F F' : Nat → Prop} {s : SV} {x : s.T} {v : Value} (hf : s.flat = true) (h : PackRep w F s x v) : PackRep w F' s x v := by
  cases s with
  | val k => exact RdV.flat_ hf h
  | arr e =>
    rcases h with h | ⟨b, off, cap, c, t, fr, h1, h2, h3, h4, h5, h6⟩
    · exact .inl h
    · refine .inr ⟨b, off, cap, c, t, fr, h1, h2, h3, h4, h5, fun i hi => ?_⟩
      obtain ⟨cs, e1, e2, e3⟩ := h6 i hi
      exact ⟨cs, e1, e2, Rd.flat_ hf e3⟩
  | map kk kv =>
    have hf : (kk.flat && kv.flat) = true := hf
    rw [Bool.and_eq_true] at hf
    obtain ⟨r, h1, es, clock, h2, h3, h4⟩ := h
    refine ⟨r, h1, es, clock, h2, h3, fun i hi => ?_⟩
    obtain ⟨en, ck, cv, e1, e2, e3, e4, e5⟩ := h4 i hi
    exact ⟨en, ck, cv, e1, e2, e3, Rd.flat_ hf.1 e4, Rd.flat_ hf.2 e5⟩
theorem PacksRep.flat_ {F F' : Nat → Prop} : ∀ {ss : List SV} {x : XT ss} {vs : List Value}, ss.all SV.flat = true → PacksRep w F ss x vs → PacksRep w F' ss x vs
  | [], _, _, _, h => h
  | [s], _, _, hf, ⟨v, e, h⟩ => ⟨v, e, h.flat_ (by simpa using hf)⟩
  | s :: t :: r, _, _, hf, ⟨v, q, e, h1, h2⟩ => by
    rw [List.all_cons, Bool.and_eq_true] at hf
    exact ⟨v, q, e, h1.flat_ hf.1, PacksRep.flat_ hf.2 h2⟩
theorem unpack_leafS : ∀ {ss : List SV} {x : XT ss} {obs : List Ob}, ss.all SV.leaf = true → ∀ (i : Nat) (h1 : i < (unpack ss x obs).1.length), leafOK (unpack ss x obs).1[i]
  | [], x, obs, _ => fun i h1 => by cases h1
  | [s], x, obs, hs => fun i h1 => by
    have hs : s.leaf = true := by simpa using hs
    have : i = 0 := by simp [unpack] at h1; omega
    subst this
    cases s with
    | val k => show k.isAgg = false; simpa [SV.leaf] using hs
    | arr e => trivial
    | map kk kv => trivial
  | s :: t :: r, x, obs, hs => by
    rw [List.all_cons, Bool.and_eq_true] at hs
    intro i h1
    cases i with
    | zero =>
      cases s with
      | val k => show k.isAgg = false; simpa [SV.leaf] using hs.1
      | arr e => trivial
      | map kk kv => trivial
    | succ i => exact unpack_leafS (ss := t :: r) (x := x.2) (obs := (unpackOne s x.1 obs).2) hs.2 i (by simpa [unpack] using h1)
theorem blks_nodup : ∀ {l : List Value}, (∀ i j b, bOf (l.getD i undef) = some b → bOf (l.getD j undef) = some b → i = j) → (blks l).Nodup
  | [], _ => by simp [blks]
  | v :: l, h => by
    have ih : (blks l).Nodup := blks_nodup fun i j b h1 h2 => by
      have := h (i + 1) (j + 1) b (by simpa using h1) (by simpa using h2)
      omega
    unfold blks at *
    rw [List.flatMap_cons, List.nodup_append]
    refine ⟨by cases bOf v <;> simp, ih, fun a ha b hb e => ?_⟩
    subst e
    have h1 : bOf v = some a := by
      cases q : bOf v with
      | none => rw [q] at ha; simp at ha
      | some c => rw [q] at ha; simp at ha; rw [ha]
    obtain ⟨u, hu, hau⟩ := List.mem_flatMap.1 hb
    obtain ⟨i, hi, rfl⟩ := List.getElem_of_mem hu
    have h2 : bOf l[i] = some a := by
      cases q : bOf l[i] with
      | none => rw [q] at hau; simp at hau
      | some c => rw [q] at hau; simp at hau; rw [hau]
    have := h 0 (i + 1) a (by simpa using h1) (by simpa [hi] using h2)
    omega
theorem mem_blks {l : List Value} {b : Nat} (h : b ∈ blks l) : ∃ v ∈ l, bOf v = some b := by
  obtain ⟨v, hv, hb⟩ := List.mem_flatMap.1 h
  refine ⟨v, hv, ?_⟩
  cases q : bOf v with
  | none => rw [q] at hb; simp at hb
  | some c => rw [q] at hb; simp at hb; rw [hb]

theorem evCallX_ok (hΓ : CtxOK P J Γ) (hB : B.Ok J) (h : Rep' P J B βs obs w) (hI : J.I w) {k g : Nat} {F : XFn} (hg : XOK P J g F) {tvs : List TV} {vals : List Value} (ht : TVs P J B βs obs w tvs vals) (he : (evCallX Γ wr k F tvs obs).To (tv, obs')) :
    Calls P g vals.toArray w fun e w' => ∃ v, e = .returned v ∧ Behind P J B βs obs wr w tv obs' v w' := by
  unfold evCallX at he
  split at he
  · exact (Res.to_fail he).elim
  rename_i Ls hLs
  split at he
  · exact (Res.to_fail he).elim
  rename_i hag
  rw [Bool.and_eq_true, Bool.and_eq_true] at hag
  obtain ⟨hag, hnd0, hwr0⟩ := hag
  have hLn := nodupB_nodup hnd0
  have hLw := allWr_all hwr0
  split at he
  · exact (Res.to_fail he).elim
  rename_i src hsrc
  split at he
  rotate_left
  · exact (Res.to_fail he).elim
  rename_i o1 x hlv hpk
  split at he
  · exact (Res.to_fail he).elim
  rename_i obs1 hm
  split at he
  rotate_left
  · exact (Res.to_fail he).elim
  rename_i xs obs2 hx hl
  obtain ⟨y, hy, he⟩ := Res.to_bind he
  obtain ⟨rfl, rfl⟩ := Res.to_nowV he
  have hlen := h.obs.len
  have hLl := boxesOf_len hLs
  have hzf := zipN_fst hLl
  obtain ⟨vs, hsv, hbv, hleaf, hbox⟩ := srcObs_rep h hsrc
  obtain ⟨lv1, lv2, lv3, lv4, lv5⟩ := leave_ok hlv
  have hLbox : ∀ L ∈ Ls, ∃ cs, getOb obs L = .box cs := fun L hL => by
    rw [← hzf] at hL
    obtain ⟨p, hp, rfl⟩ := List.mem_map.1 hL
    exact hbox p hp
  have hLlt : ∀ L ∈ Ls, L < obs.length := fun L hL => by
    obtain ⟨cs, hcs⟩ := hLbox L hL
    exact getOb_lt hcs rfl
  have hLlive : ∀ L ∈ Ls, (getOb obs L).live = true := fun L hL => by
    obtain ⟨cs, hcs⟩ := hLbox L hL
    rw [hcs]; rfl
  have hLptr : ∀ L ∈ Ls, bv βs L = ptrV (blkOf βs L) := fun L hL => by
    have hL' : L ∈ (zipN Ls F.cs).map (·.1) := by rw [hzf]; exact hL
    obtain ⟨p, hp, rfl⟩ := List.mem_map.1 hL'
    obtain ⟨b, hb⟩ := hbv.ptr p hp
    unfold blkOf
    rw [hb]; rfl
  have hLb : ∀ L ∈ Ls, bOf (bv βs L) = some (blkOf βs L) := fun L hL => by rw [hLptr L hL]; rfl
  obtain ⟨kl1, kl2, kl3⟩ := killObs_ok (Ls := Ls) (obs := o1) (fun L hL => by rw [lv1.1]; exact hLlt L hL)
  have hdD : Drops obs (killObs Ls o1) := ⟨kl1.trans lv1.1, fun M => by
    by_cases q : M ∈ Ls
    · exact .inr (kl2 M q)
    · rw [kl3 M q]; exact lv1.2 M⟩
  -- what is handed over: not the caller's own any more
  have hgone : ∀ {L b}, L < βs.length → (getOb obs L).live = true → getOb (killObs Ls o1) L = .dead → bOf (bv βs L) = some b → Own βs obs b ∧ ¬ Own βs (killObs Ls o1) b := fun {L b} h1 h2 h3 h4 => by
    refine ⟨⟨L, h1, h2, h4⟩, ?_⟩
    rintro ⟨M, hM, m1, m2⟩
    have m3 : (getOb obs M).live = true := by rw [← hdD.live (fun e => by rw [e] at m1; cases m1)]; exact m1
    have := h.inj L M b h1 hM h2 m3 h4 m2
    subst this
    rw [h3] at m1; cases m1
  have hLd : ∀ L ∈ Ls, Own βs obs (blkOf βs L) ∧ ¬ Own βs (killObs Ls o1) (blkOf βs L) := fun L hL => hgone (by rw [hlen]; exact hLlt L hL) (hLlive L hL) (kl2 L hL) (hLb L hL)
  have hsd : ∀ L ∈ srcLabels src, L ∉ Ls ∧ getOb (killObs Ls o1) L = .dead := fun L hL => by
    have q := lv3 L hL
    have hn : L ∉ Ls := fun q2 => by
      obtain ⟨cs, hcs⟩ := hLbox L q2
      exact q.2.2.1 cs hcs
    exact ⟨hn, by rw [kl3 L hn]; exact q.2.2.2⟩
  have hnv := newVals_own hsv ⟨x, hpk⟩
  have hnvd : ∀ b ∈ blks (newVals F.ss vs), Own βs obs b ∧ ¬ Own βs (killObs Ls o1) b := fun b hb => by
    obtain ⟨v, hv, hvb⟩ := mem_blks hb
    obtain ⟨L, hL, q1, q2⟩ := hnv v hv b hvb
    exact hgone q1 (lv3 L hL).2.1 (hsd L hL).2 q2
  have hnvi := newVals_inj h hsv ⟨x, hpk⟩ lv2 (fun L hL => (lv3 L hL).2.1)
  -- the plain arguments
  obtain ⟨pv, hxa, htp⟩ := boxesAgree_rep hLptr ht hag
  obtain ⟨hd, hlk, hnd, hgs, hsub, _⟩ := moved_ok h hdD (fun b hb => hdD.own hb) hm htp (fun M hM hwM => by
    have hn : M ∉ Ls := fun q => by rw [hLw M q] at hwM; cases hwM
    rw [kl3 M hn]
    refine lv4 M fun q => ?_
    rw [(lv3 M q).1] at hwM; cases hwM)
  let flat := F.rs.all Lm.flat && F.ss.all SV.flat
  have hrel : FrzRel obs1 obs2 ∧ (∀ M, wr M = false → getOb obs2 M = getOb obs1 M) ∧ (flat = true ∨ ∃ o1, FrzRel obs1 o1 ∧ lent wr (plains F.ps) (plainTVs F.ps tvs) o1 = some obs2) := by
    split at hl
    · rename_i hf
      cases hl; exact ⟨FrzRel.refl _, fun _ _ => rfl, .inl hf⟩
    · obtain ⟨q1, q2⟩ := lent_rel hl
      exact ⟨q1, q2, .inr ⟨obs1, FrzRel.refl _, hl⟩⟩
  obtain ⟨hrel, hlk2, hlent⟩ := hrel
  let bls := Ls.map (blkOf βs)
  let gs := ownBs (plains F.ps) pv ++ blks (newVals F.ss vs) ++ bls
  have hgs' : ∀ b ∈ gs, Own βs obs b ∧ ¬ Own βs obs1 b := fun b hb => by
    rcases List.mem_append.1 hb with hb | hb
    · rcases List.mem_append.1 hb with hb | hb
      · exact ⟨hdD.own (hgs b hb).1, (hgs b hb).2⟩
      · exact ⟨(hnvd b hb).1, fun q => (hnvd b hb).2 (hsub b q)⟩
    · obtain ⟨L, hL, rfl⟩ := List.mem_map.1 hb
      exact ⟨(hLd L hL).1, fun q => (hLd L hL).2 (hsub _ q)⟩
  have hbls : bls.Nodup := by
    refine List.pairwise_map.2 (hLn.imp_of_mem fun {a b} ha hb hne e => hne ?_)
    exact h.inj a b (blkOf βs a) (by rw [hlen]; exact hLlt a ha) (by rw [hlen]; exact hLlt b hb) (hLlive a ha) (hLlive b hb) (hLb a ha) (by rw [hLb b hb, e])
  have hgnd : gs.Nodup := by
    refine List.nodup_append.2 ⟨List.nodup_append.2 ⟨hnd, blks_nodup hnvi, fun a ha b hb e => ?_⟩, hbls, fun a ha b hb e => ?_⟩
    · subst e; exact (hnvd a hb).2 (hgs a ha).1
    · subst e
      obtain ⟨L, hL, rfl⟩ := List.mem_map.1 hb
      rcases List.mem_append.1 ha with ha | ha
      · exact (hLd L hL).2 (hgs _ ha).1
      · obtain ⟨v, hv, hvb⟩ := mem_blks ha
        obtain ⟨M, hM, q1, q2⟩ := hnv v hv _ hvb
        have := h.inj L M _ (by rw [hlen]; exact hLlt L hL) q1 (hLlive L hL) (lv3 M hM).2.1 (hLb L hL) q2
        subst this
        exact (hsd L hM).1 hL
  let B2 : Base := ⟨w, fun b => b ∈ gs, CF B βs obs obs1 obs2 flat w⟩
  have hcf : ∀ b, CF B βs obs obs1 obs2 flat w b → b < w.heap.size ∧ b ∉ gs := fun b hb => by
    rcases hb with hb | hb
    · have := h.notOwn hb
      exact ⟨this.1, fun q => this.2 (hgs' b q).1⟩
    · exact ⟨(h.own b (hd.own hb.1)).2, fun q => (hgs' b q).2 hb.1⟩
  have hB2 : B2.Ok J := ⟨hcf, hI, Nat.le_trans hB.gz h.base, fun b hb hq => by
    rcases (h.own b (hgs' b hq).1).1 with q | q
    · have := hB.gz; omega
    · exact hB.gzG b hb q⟩
  have hS : ∀ b, B.S b → B2.S b := fun b hb => ⟨Nat.lt_of_lt_of_le hb.1 h.base, fun q => by
    rcases (h.own b (hgs' b q).1).1 with q1 | q1
    · have := hb.1; omega
    · exact hb.2 q1⟩
  have hFz : ∀ b, Fz B βs obs w b → B2.S b := fun b hb => by
    have := h.notOwn hb
    exact ⟨this.1, fun q => this.2 (hgs' b q).1⟩
  have hFS : ∀ b, Own βs obs1 b → B2.S b := fun b hb => ⟨(h.own b (hd.own hb)).2, fun q => (hgs' b q).2 hb⟩
  have hargs := argsOf_rep (S' := B2.S) (flat := flat) hΓ h hd hrel hS hFz (fun b hb => hb.1) hFS htp hx hlent
  have hpr : PacksRep w (CF B βs obs obs1 obs2 flat w) F.ss x vs := (pack_rep h hsv hpk).mono fun b hb => .inl hb
  have hb0 : BoxVals w (bls.map ptrV) (cnts0 0 F.cs) vs := (BoxVals.go0 (βs' := bls.map ptrV) hLl (fun j hj => by
    rw [Nat.zero_add, hLptr _ (List.getElem_mem hj)]
    simp [bv, bls, hj])).1 hbv
  have hcall := hg.ok k B2 vals pv bls vs x xs y hB2 hxa (by simp [bls, hLl]) hargs hb0 hpr hgnd (fun b hb => ⟨hb, (h.own b (hgs' b hb).1).2⟩) hy
  refine hcall.mono fun e w' hp => ?_
  obtain ⟨rvs, vs', own, rfl, rfl, hret, hpk', hbv', hnd2, hown2, hext⟩ := hp
  have hfin : ∃ F', RetsRep w' F' F.rs y.1 rvs ∧ PacksRep w' F' F.ss y.2 vs' ∧ ∀ b, F' b → (Fz B βs obs w b ∨ (Own βs obs1 b ∧ ¬ Own βs obs2 b) ∨ ((w.heap.size ≤ b ∨ b ∈ gs) ∧ b < w'.heap.size ∧ b ∉ ownRs F.rs rvs ++ blks (newVals F.ss vs') ++ bls)) := by
    cases hfl : flat with
    | true =>
      have hfl : (F.rs.all Lm.flat && F.ss.all SV.flat) = true := hfl
      rw [Bool.and_eq_true] at hfl
      exact ⟨fun _ => False, (RetsRep.flat_ hfl.1 hret).1, hpk'.flat_ hfl.2, fun b hb => hb.elim⟩
    | false =>
      refine ⟨_, hret, hpk', fun b hb => ?_⟩
      rcases hb with (hb | hb) | hb
      · exact .inl hb
      · rcases hb.2 with q | q
        · rw [hfl] at q; cases q
        · exact .inr (.inl ⟨hb.1, q⟩)
      · exact .inr (.inr hb)
  obtain ⟨F', hret', hpk2, hF'⟩ := hfin
  obtain ⟨r1, r2⟩ := ownObs_rep hret'
  obtain ⟨n1, n2⟩ := newObs_rep hpk2
  have hl2 : βs.length = obs2.length := by rw [hlen, ← hd.1, ← hrel.1]
  -- the state behind
  have ho2 : ∀ {L}, L ∈ Ls → L < obs2.length := fun {L} hL => by rw [← hl2, hlen]; exact hLlt L hL
  let nv := ownVals F.rs rvs ++ newVals F.ss vs'
  let βf := βs ++ nv
  have hnvl : nv.length = (ownObs F.rs y.1 ++ newObs F.ss y.2).length := by simp [nv, r1, n1]
  have hbf : ∀ {L}, L < βs.length → bv βf L = bv βs L := fun {L} hL => by rw [bv_app, if_pos hL]
  have hbn : ∀ i, bv βf (βs.length + i) = nv.getD i undef := fun i => by rw [bv_app, if_neg (by omega), Nat.add_sub_cancel_left]; rfl
  obtain ⟨u1, u2⟩ := unpack_rep (F' := F') (obs := obs2 ++ ownObs F.rs y.1) (βs := βs ++ ownVals F.rs rvs) (βf := βf) (fun _ q => q) hpk2 (by simp [hl2, r1]) (fun i hi => by
    rw [List.length_append, Nat.add_assoc, hbn]
    simp [nv, List.getElem?_append_right]) (by simp [βf, nv])
  have hul := unpack_leafS (ss := F.ss) (x := y.2) (obs := obs2 ++ ownObs F.rs y.1) hg.leaf
  have hbvz : BoxVals w' βs (zipN Ls F.cs) vs' := (BoxVals.go0 (βs' := bls.map ptrV) hLl (fun j hj => by
    rw [Nat.zero_add, hLptr _ (List.getElem_mem hj)]
    simp [bv, bls, hj])).2 hbv'
  obtain ⟨s1, s2, s3⟩ := openSet_rep (F' := F') (βs' := βf) (cnts := zipN Ls F.cs) (rvs := (unpack F.ss y.2 (obs2 ++ ownObs F.rs y.1)).1) (obs := (unpack F.ss y.2 (obs2 ++ ownObs F.rs y.1)).2) hbvz u1 (fun i hi => ⟨hul i hi, by
    have := u2 i hi (by omega)
    have e : vs'.getD i undef = vs'[i]'(by omega) := by simp [show i < vs'.length by omega]
    rw [e]; exact this⟩) (by rw [hzf]; exact hLn) (fun p hp => by
    have hpL : p.1 ∈ Ls := by rw [← hzf]; exact List.mem_map_of_mem hp
    refine ⟨?_, hbf (by rw [hl2]; exact ho2 hpL)⟩
    rw [unpack_obs, List.length_append, List.length_append]
    have := ho2 hpL; omega)
  rw [hzf] at s2 s3
  have hobs : (unpack F.ss y.2 (obs2 ++ ownObs F.rs y.1)).2 = obs2 ++ (ownObs F.rs y.1 ++ newObs F.ss y.2) := by rw [unpack_obs, List.append_assoc]
  have hLd2 : ∀ L ∈ Ls, L < βs.length ∧ wr L = true ∧ (getOb obs L).live = true ∧ ∃ b, bOf (bv βs L) = some b ∧ b ∈ gs := fun L hL =>
    ⟨by rw [hlen]; exact hLlt L hL, hLw L hL, hLlive L hL, blkOf βs L, hLb L hL, List.mem_append_right _ (List.mem_map_of_mem hL)⟩
  have hblk : Ls.flatMap (fun L => (bOf (bv βs L)).toList) = bls := by
    have : ∀ (l : List Nat), (∀ L ∈ l, bOf (bv βs L) = some (blkOf βs L)) → l.flatMap (fun L => (bOf (bv βs L)).toList) = l.map (blkOf βs) := by
      intro l
      induction l with
      | nil => intro _; rfl
      | cons a l ih => intro hh; rw [List.flatMap_cons, List.map_cons, ih (fun L hL => hh L (List.mem_cons_of_mem _ hL)), hh a (List.mem_cons_self ..)]; rfl
    exact this Ls hLb
  obtain ⟨hstep, hFF⟩ := Rep'.calledX (wr := wr) (F' := F') (news := ownObs F.rs y.1 ++ newObs F.ss y.2) (vs := nv) (own := ownRs F.rs rvs ++ blks (newVals F.ss vs') ++ bls) (obs' := openSet (zipN Ls F.cs) (unpack F.ss y.2 (obs2 ++ ownObs F.rs y.1)).1 (unpack F.ss y.2 (obs2 ++ ownObs F.rs y.1)).2)
    h hd hrel (fun M hM hw => (hlk2 M hw).trans (hlk M hM hw)) hgs' hext.os hext.tape hext.output hext.size (fun b hb hn => hext.block b hb hn) hLd2 hnvl.symm
    (by rw [hblk, ownRs_vals]; simp [blks, nv]) hnd2 hown2 (by rw [s1, hobs]; simp) (fun M hM hn => by
      rw [s2 M hn, hobs, getOb_app, if_pos hM]) (fun i hi => by
      rw [s2 _ (fun q => by have := ho2 q; omega), hobs, getOb_app, if_neg (by omega), Nat.add_sub_cancel_left]) (fun i h1 h2 => by
      by_cases q : i < (ownObs F.rs y.1).length
      · obtain ⟨e, l, q1, q2⟩ := r2 i q (by omega)
        have e1 : (ownObs F.rs y.1 ++ newObs F.ss y.2)[i] = .arr e l := by rw [List.getElem_append_left q, q1]
        have e2 : nv[i] = (ownVals F.rs rvs)[i]'(by omega) := List.getElem_append_left (by omega)
        rw [e1, e2]
        exact ⟨rfl, q2⟩
      · have hi' : i - (ownObs F.rs y.1).length < (newObs F.ss y.2).length := by rw [List.length_append] at h1; omega
        obtain ⟨q1, q2⟩ := n2 (i - (ownObs F.rs y.1).length) hi' (by omega)
        have e1 : (ownObs F.rs y.1 ++ newObs F.ss y.2)[i] = (newObs F.ss y.2)[i - (ownObs F.rs y.1).length] := List.getElem_append_right (by omega)
        have e2 : nv[i] = (newVals F.ss vs')[i - (ownObs F.rs y.1).length]'(by omega) := by
          have : nv[i] = (newVals F.ss vs')[i - (ownVals F.rs rvs).length]'(by omega) := List.getElem_append_right (by omega)
          rw [this]; simp only [r1]
        rw [e1, e2]
        exact ⟨q1, q2⟩) (fun L hL => by
      obtain ⟨cs, c1, c2⟩ := s3 L hL
      refine ⟨cs, c1, ?_⟩
      rw [hbf (by rw [hl2]; exact ho2 hL)] at c2
      exact c2) hF'
  rw [back_obs]
  obtain ⟨b1, b2⟩ := back_rep (obs := obs2) (βs := βs) (βf := βf) hFF hret' (fun _ _ => .inr hFF) hl2 (fun i hi => by
    rw [hbn]
    rw [List.length_append] at hi
    simp [nv, List.getElem?_append_left (show i < (ownVals F.rs rvs).length by omega)]) (by simp [βf, nv])
  exact ⟨_, rfl, βf, hstep, tvOf_rep b1 b2⟩

theorem evCallV_ok (hΓ : CtxOK P J Γ) (hB : B.Ok J) (h : Rep' P J B βs obs w) (hI : J.I w) {k : Nat} {f : TV} {vf : Value} {tvs : List TV} {vals : List Value} (hf : TR P J B βs obs w f vf) (ht : TVs P J B βs obs w tvs vals) (he : (evCallV Γ wr k f tvs obs).To (tv, obs')) :
    OpGives P J B βs obs wr w (do let d ← Deferred.ofValue vf vals.toArray; invoke d.target d.args) tv obs' := by
  unfold evCallV at he
  split at he
  · rename_i g caps
    obtain ⟨h1, rfl⟩ := hf
    have hcaps : TVs P J B βs obs w (caps.map fun L => TV.ptr L 0) (caps.map (bv βs)) := by
      clear he
      induction caps with
      | nil => rfl
      | cons L Ls ih =>
        obtain ⟨q1, b, q2⟩ := h1 L (List.mem_cons_self ..)
        exact ⟨_, _, rfl, ⟨q1, b, q2, q2⟩, ih (fun M hM => h1 M (List.mem_cons_of_mem _ hM))⟩
    split at he
    · rename_i F hF
      have g1 := (hΓ.io _ _ hF).enters
      have g2 := evCallIo_ok hΓ hB h hI (hΓ.io _ _ hF) (ht.append hcaps) he
      refine .inr (.inr ⟨g, vals.toArray ++ (caps.map (bv βs)).toArray, ?_, by simpa using g2⟩)
      simp [Deferred.ofValue, invoke, enter_run g1]
    split at he
    · rename_i F hF
      have g1 := (hΓ.xf _ _ hF).enters
      have g2 := evCallX_ok hΓ hB h hI (hΓ.xf _ _ hF) (ht.append hcaps) he
      refine .inr (.inr ⟨g, vals.toArray ++ (caps.map (bv βs)).toArray, ?_, by simpa using g2⟩)
      simp [Deferred.ofValue, invoke, enter_run g1]
    split at he
    · rename_i F hF
      have g0 := hΓ.yf _ _ hF
      have g1 := g0.enters
      obtain ⟨p, hp, he⟩ := Res.to_bind he
      cases Res.to_now he
      have g2 := g0.ok _ _ _ _ _ _ _ _ _ _ hB h hI (ht.append hcaps) hp
      refine .inr (.inr ⟨g, vals.toArray ++ (caps.map (bv βs)).toArray, ?_, by simpa using g2⟩)
      simp [Deferred.ofValue, invoke, enter_run g1]
    obtain ⟨g1, g2⟩ := evCallFn_ok hΓ hB h hI (ht.append hcaps) he
    refine .inr (.inr ⟨g, vals.toArray ++ (caps.map (bv βs)).toArray, ?_, by simpa using g2⟩)
    simp [Deferred.ofValue, invoke, enter_run g1]
  · rename_i a r f
    split at he
    · rename_i x hx
      obtain ⟨y, hy, he⟩ := Res.to_bind he
      obtain ⟨rfl, rfl⟩ := Res.to_nowV he
      obtain ⟨hr, g, caps, rfl, hent, hcalls⟩ := hf
      refine .inr (.inr ⟨g, vals.toArray ++ caps, by simp [Deferred.ofValue, invoke, enter_run hent], ?_⟩)
      refine (hcalls w hI (Nat.le_trans hB.gz h.base) (Nat.le_refl _) (fun _ _ => rfl) (FO B βs obs w) x vals y (fun b hb => ?_) (cloArg_rep h (fun _ hb => hb) ht hx) hy).mono fun e w' ⟨v, h1, h2, h3⟩ => ?_
      · rcases hb with hb | hb
        · exact (h.notOwn hb).1
        · exact (h.own b hb).2
      · exact ⟨v, h1, βs, h.grown h3, RdV.flat_ hr h2⟩
    · exact (Res.to_fail he).elim
  · exact (Res.to_fail he).elim

/-- ANY OPERATION -/
theorem evalOp0_ok (hΓ : CtxOK P J Γ) (hB : B.Ok J) (h : Rep' P J B βs obs w) (hI : J.I w) {k : Nat} {o : Oper} {ρ : Operand → TV} {ρ' : Operand → Value} (hρ : ∀ x, TR P J B βs obs w (ρ x) (ρ' x)) (he : (evalOp0 Γ wr k o ρ obs).To (tv, obs')) :
    OpGives P J B βs obs wr w (execOp ρ' o) tv obs' := by
  obtain ⟨dst, op, type, pos, after, guard⟩ := o
  have hopt : ∀ (x : Option Operand), (∀ tv, x.map ρ = some tv → ∃ v, x.map ρ' = some v ∧ TR P J B βs obs w tv v) ∧ (x.map ρ = none → x.map ρ' = none) := fun x => by
    cases x with
    | none => exact ⟨fun tv q => (by cases q), fun _ => rfl⟩
    | some x => exact ⟨fun tv q => (by cases q; exact ⟨_, rfl, hρ x⟩), fun q => (by cases q)⟩
  unfold evalOp0 at he
  cases op <;> simp only at he
  case move x => exact (evMove_ok h (hρ x) he).op
  case assign x => exact (evMove_ok h (hρ x) he).op
  case pick c a b =>
    have := (evPick_ok (wr := wr) h (hρ c) (hρ a) (hρ b) he).op
    simpa [execOp] using this
  case alloc t => exact (evAlloc_ok hΓ h he).op
  case box t x => exact (evBox_ok hΓ h (hρ x) he).op
  case load t x => exact (evLoad_ok hΓ h (hρ x) he).op
  case store t x y => exact (evStore_ok hΓ h (hρ x) (hρ y) he).op
  case nilCheck x =>
    obtain ⟨rfl, rfl, ad, hv⟩ := evNilCheck_ok (hρ x) he
    have hx := hρ x
    refine .inl ⟨ρ' x, w, ?_, βs, h.step_refl _, hx⟩
    simp only [execOp, hv]
    rfl
  case fieldAddr s x f => exact (evFieldAddr_ok hΓ h (hρ x) he).op
  case field s x f => exact (evField_ok hΓ h (hρ x) he).op
  case indexAddr t x i => exact (evIndexAddr_ok hΓ h (hρ x) (hρ i) he).op
  case index t x i => exact (evIndex_ok hΓ h (hρ x) (hρ i) he).op
  case slice t x lo hi mx => exact (evSlice_ok hΓ h (hρ x) (hopt lo).1 (hopt lo).2 (hopt hi).1 (hopt hi).2 (hopt mx).2 (hopt mx).1 he).op
  case lookup t x i ok => exact (evLookup_ok hΓ h (hρ x) (hρ i) he).op
  case mapUpdate t m key x => exact (evMapUpdate_ok hΓ h (hρ m) (hρ key) (hρ x) he).op
  case makeMap t r => exact (evMakeMap_ok h (hopt r).2 he).op
  case range t x => exact (evRange_ok hΓ h (hρ x) he).op
  case entry x => exact (evEntry_ok h (hρ x) he).op
  case makeFunc fn first caps =>
    unfold evMakeFunc at he
    split at he
    · rename_i g
      split at he
      · rename_i hz
        have hfirst : first = #[] := by
          rw [Array.length_toList] at hz
          exact Array.eq_empty_of_size_eq_zero hz
        split at he
        · rename_i ls hls
          obtain ⟨rfl, rfl⟩ := Res.to_nowV he
          obtain ⟨g1, g2⟩ := labelsOf_rep hρ hls
          refine (Gives.now (tv := .fn g ls) h (s := Instr.makeFunc (.func g) (first.map ρ') (caps.map ρ')) (v := .func (.func g) #[] (ls.map (bv βs)).toArray) ?_ ⟨g1, rfl⟩).op
          have e : caps.map ρ' = (ls.map (bv βs)).toArray := by rw [← g2]; apply Array.ext'; simp
          simp [Instr.makeFunc, hfirst, e]
        · exact (Res.to_fail he).elim
      · exact (Res.to_fail he).elim
    · exact (Res.to_fail he).elim
  case makeSlice t l c => exact (evMakeSlice_ok hΓ h (hρ l) (hρ c) he).op
  case buildSlice t len ps =>
    obtain ⟨q1, q2⟩ := parts_rep hρ ps.toList
    have := (evBuildSlice_ok hΓ h q1 q2 he).op
    have e : (ps.toList.map fun p => (p.1, ρ' p.2)).toArray = ps.map fun (i, x) => (i, ρ' x) := by apply Array.ext'; simp
    rw [e] at this
    exact this
  case build t ps =>
    obtain ⟨q1, q2⟩ := parts_rep hρ ps.toList
    have := (evBuild_ok hΓ h q1 q2 he).op
    have e : (ps.toList.map fun p => (p.1, ρ' p.2)).toArray = ps.map fun (i, x) => (i, ρ' x) := by apply Array.ext'; simp
    rw [e] at this
    exact this
  case extract x i => exact (evExtract_ok h (hρ x) he).op
  case convert s d x => exact (evConvert_ok hΓ h (hρ x) he).op
  case binOp op t x y u => exact (evBinOp_ok hΓ h (hρ x) (hρ y) he).op
  case unOp op t x => exact (evUnOp_ok h (hρ x) he).op
  case call c =>
    obtain ⟨callee, args, argTypes⟩ := c
    cases callee with
    | invoke x m => simp only at he; exact (Res.to_fail he).elim
    | value f =>
      simp only at he
      have := evCallV_ok hΓ hB h hI (hρ f) (TVs.of hρ args.toList) he
      have e : (args.toList.map ρ').toArray = args.map ρ' := by apply Array.ext'; simp
      rw [e] at this
      exact this
    | builtin b =>
      simp only at he
      unfold evBuiltin at he
      split at he
      · split at he
        · rename_i x t' hx ht
          obtain ⟨x', rfl⟩ : ∃ x', args = #[x'] := by
            obtain ⟨l⟩ := args
            match l, hx with
            | [x'], _ => exact ⟨x', rfl⟩
          obtain rfl : argTypes = #[t'] := by
            obtain ⟨l⟩ := argTypes
            simpa using ht
          simp at hx
          subst hx
          have := (evLen_ok (wr := wr) (ty := type) hΓ h (hρ x') he).op
          rw [show #[ρ' x'] = #[x'].map ρ' by simp] at this
          exact this
        · exact (Res.to_fail he).elim
      · split at he
        · rename_i x t' hx ht
          obtain ⟨x', rfl⟩ : ∃ x', args = #[x'] := by
            obtain ⟨l⟩ := args
            match l, hx with
            | [x'], _ => exact ⟨x', rfl⟩
          obtain rfl : argTypes = #[t'] := by
            obtain ⟨l⟩ := argTypes
            simpa using ht
          simp at hx
          subst hx
          have := (evCap_ok (wr := wr) (ty := type) hΓ h (hρ x') he).op
          rw [show #[ρ' x'] = #[x'].map ρ' by simp] at this
          exact this
        · exact (Res.to_fail he).elim
      · split at he
        · rename_i x y t' tx hx ht
          obtain ⟨x', y', rfl⟩ : ∃ x' y', args = #[x', y'] := by
            obtain ⟨l⟩ := args
            match l, hx with
            | [x', y'], _ => exact ⟨x', y', rfl⟩
          obtain rfl : argTypes = #[t', tx] := by
            obtain ⟨l⟩ := argTypes
            simpa using ht
          simp at hx
          obtain ⟨rfl, rfl⟩ := hx
          split at he
          · rename_i kn hkn
            have := (evAppendZ_ok (wr := wr) (ty := type) hΓ h hkn (hρ x') (hρ y') he).op
            rw [show #[ρ' x', ρ' y'] = #[x', y'].map ρ' by simp] at this
            exact this
          · have := (evAppend_ok (wr := wr) (ty := type) hΓ h (hρ x') (hρ y') he).op
            rw [show #[ρ' x', ρ' y'] = #[x', y'].map ρ' by simp] at this
            exact this
        · exact (Res.to_fail he).elim
      · split at he
        · rename_i x t' hx ht
          obtain ⟨x', rfl⟩ : ∃ x', args = #[x'] := by
            obtain ⟨l⟩ := args
            match l, hx with
            | [x'], _ => exact ⟨x', rfl⟩
          obtain rfl : argTypes = #[t'] := by
            obtain ⟨l⟩ := argTypes
            simpa using ht
          simp at hx
          subst hx
          have := (evClear_ok (wr := wr) (ty := type) hΓ h (hρ x') he).op
          rw [show #[ρ' x'] = #[x'].map ρ' by simp] at this
          exact this
        · exact (Res.to_fail he).elim
      · split at he
        · rename_i x y hx
          obtain ⟨x', y', rfl⟩ : ∃ x' y', args = #[x', y'] := by
            obtain ⟨l⟩ := args
            match l, hx with
            | [x', y'], _ => exact ⟨x', y', rfl⟩
          simp at hx
          obtain ⟨rfl, rfl⟩ := hx
          have := (evMinMax_ok (wr := wr) (ts := argTypes) (t := type) h (hρ x') (hρ y') he).op
          simp only [cond] at this
          rw [show #[ρ' x', ρ' y'] = #[x', y'].map ρ' by simp] at this
          exact this
        · exact (Res.to_fail he).elim
      · split at he
        · rename_i x y hx
          obtain ⟨x', y', rfl⟩ : ∃ x' y', args = #[x', y'] := by
            obtain ⟨l⟩ := args
            match l, hx with
            | [x', y'], _ => exact ⟨x', y', rfl⟩
          simp at hx
          obtain ⟨rfl, rfl⟩ := hx
          have := (evMinMax_ok (wr := wr) (ts := argTypes) (t := type) h (hρ x') (hρ y') he).op
          simp only [cond] at this
          rw [show #[ρ' x', ρ' y'] = #[x', y'].map ρ' by simp] at this
          exact this
        · exact (Res.to_fail he).elim
      · exact (Res.to_fail he).elim
  all_goals exact (Res.to_fail he).elim

end Go.Proofs.YtbliiipcjbmbiaaGreatDoor.Ev
