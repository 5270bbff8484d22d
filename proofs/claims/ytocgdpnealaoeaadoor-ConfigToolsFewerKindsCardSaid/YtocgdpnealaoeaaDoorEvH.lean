/- The small evaluator's rule for calls is right: the arguments, the call, the results (this session's own). No condition. -/
import Derived.Test.YtocgdpnealaoeaaDoorEvG
namespace Go.Proofs.YtocgdpnealaoeaaDoor.Ev
open Go.RowKit
set_option linter.unusedVariables false
set_option linter.unusedSimpArgs false

variable {P : Program} {J : Inv} {Γ : Ctx} {B : Base} {C : LBase} {βs : List Value} {st : St} {a : Act} {w : World} {obs obs' obs1 obs2 : List Ob} {wr : Nat → Bool} {tv : TV}

theorem Drops.live {M : Nat} (hd : Drops obs obs1) (h : getOb obs1 M ≠ .dead) : getOb obs1 M = getOb obs M := (hd.2 M).resolve_right h

/-- what a callee may read: what is nobody's own, and what is lent -/
def CF (B : Base) (βs : List Value) (obs obs1 obs2 : List Ob) (flat : Bool) (w : World) (b : Nat) : Prop := Fz B βs obs w b ∨ (Own βs obs1 b ∧ (flat = true ∨ ¬ Own βs obs2 b))

/-- plain data out of slots, where what is own is read, too -/
theorem toVal_S (h : Rep' P J B βs obs w) (hd : Drops obs obs1) {k : Kd} {v : Value} {x : k.T} {F' : Nat → Prop} (hF : ∀ b, Fz B βs obs w b → F' b) (ht : TR P J B βs obs w tv v) (hx : toVal k tv obs1 = some x)
    (ho : ∀ L b, ((tv = .arr L ∧ ∃ e l, getOb obs1 L = .arr e l) ∨ (tv = .map L ∧ ∃ kk kv m, getOb obs1 L = .map kk kv m)) → bOf (bv βs L) = some b → F' b) : RdV w F' k v x := by
  have hF' : ∀ b, Fz B βs obs w b → F' b ∧ w.heap[b]? = w.heap[b]? := fun b hb => ⟨hF b hb, rfl⟩
  cases tv with
  | val k' y => exact RdV.castW (RdV.mono hF' ht) hx
  | nil =>
    cases k <;> simp only [toVal] at hx <;> cases hx
    · rw [show v = _ from ht]; exact nil_reads _
    · rw [show v = _ from ht]; exact nil_readsO _
  | nilk e =>
    rw [show v = _ from ht]
    exact RdV.castW (nil_reads e) hx
  | arr L =>
    obtain ⟨hL, rfl⟩ := ht
    have hr := h.obs.rep L hL
    simp only [toVal] at hx
    split at hx
    · rename_i e l hob
      rw [← hd.live (by rw [hob]; exact fun q => by cases q), hob] at hr
      exact RdV.cast (arr_reads hr hF (fun b hb => ho L b (.inl ⟨rfl, e, l, hob⟩) hb)) hx
    · rename_i e l hob
      rw [← hd.live (by rw [hob]; exact fun q => by cases q), hob] at hr
      exact RdV.cast (RdV.mono hF' hr) hx
    · cases hx
  | map L =>
    obtain ⟨hL, rfl⟩ := ht
    have hr := h.obs.rep L hL
    simp only [toVal] at hx
    split at hx
    · rename_i kk kv m hob
      rw [← hd.live (by rw [hob]; exact fun q => by cases q), hob] at hr
      exact RdV.cast (map_reads hr hF (fun b hb => ho L b (.inr ⟨rfl, kk, kv, m, hob⟩) hb)) hx
    · rename_i kk kv m hob
      rw [← hd.live (by rw [hob]; exact fun q => by cases q), hob] at hr
      exact RdV.cast (RdV.mono hF' hr) hx
    · cases hx
  | ptr L off =>
    cases k with
    | optr =>
      simp only [toVal] at hx
      cases hx
      exact ptr_val ht
    | _ => simp [toVal] at hx
  | _ => simp [toVal] at hx

/-- the address of a variable's part, or of what is only read, handed on -/
theorem gatherPtr_rep (h : Rep' P J B βs obs w) (hd : Drops obs obs1) {k : Kd} {v : Value} {x : k.T} {F' S' : Nat → Prop} (hF : ∀ b, Fz B βs obs w b → F' b) (hS : ∀ b, B.S b → S' b) (ht : TR P J B βs obs w tv v)
    (hx : gatherPtr k tv obs1 = some x) (hbox : ∀ L off b, tv = .ptr L off → (getOb obs1 L).live = true → bOf (bv βs L) = some b → S' b)
    (hleaf : ∀ L off cs, tv = .ptr L off → getOb obs1 L = .box cs → ∀ c ∈ cs, ∀ (k' : Kd) (v : Value) (y : k'.T), RVRep w (Fz B βs obs w) βs c v → toVal k' c.tv obs1 = some y → RdV w F' k' v y) :
    TVRep P J w F' S' [] (.rop k x) v := by
  cases tv with
  | rop k' y =>
    obtain ⟨rfl, rfl⟩ := Kd.cast_some hx
    obtain ⟨ad, rfl, h2, cs, h3, h4, h5⟩ := ht
    exact ⟨ad, rfl, h2.imp (hF _) (hS _), cs, h3, h4, Rd.mono (fun b hb => ⟨hF b hb, rfl⟩) h5⟩
  | ptr L off =>
    obtain ⟨hL, b, hbv, rfl⟩ := ht
    simp only [gatherPtr] at hx
    split at hx
    · rename_i cs hob
      split at hx
      · rename_i y rest hg
        cases hx
        have hr := h.obs.rep L hL
        have hob' : getOb obs L = .box cs := by rw [← hd.live (by rw [hob]; exact fun q => by cases q), hob]
        rw [hob'] at hr
        obtain ⟨b', c, ty, fr, q1, q2, q3, q4, q5⟩ := hr
        rw [hbv] at q1
        cases q1
        have hlr : LeafRep w (Fz B βs obs w) βs (cs.drop off) (c.toList.drop off) := by
          refine ⟨by rw [List.length_drop, List.length_drop, Array.length_toList (xs := c), q4], fun i e1 e2 => ?_⟩
          simp only [List.getElem_drop]
          have hi : off + i < cs.length := by rw [List.length_drop] at e1; omega
          have hi' : off + i < c.size := by omega
          have := q5 (off + i) hi
          simpa [hi'] using this
        obtain ⟨g1, _, g3⟩ := gather_gen hg hlr (fun r hr => hleaf L off cs rfl hob r (List.drop_subset _ _ (List.take_subset _ _ hr)))
        rw [List.length_drop] at g1
        refine ⟨_, rfl, .inr (hbox L off b rfl (by rw [hob]; rfl) (by rw [hbv]; rfl)), (c.toList.drop off).take k.sz, by rw [List.length_take, List.length_drop, Array.length_toList]; omega, fun j hj => ?_, g3⟩
        rw [Addr.add_mid, cell_of q2, List.getElem?_take, if_pos hj, List.getElem?_drop, Array.getElem?_toList]
      · cases hx
    · cases hx
  | _ => simp [gatherPtr] at hx

/-- captured variables -/
theorem capArgs_rep (h : Rep' P J B βs obs w) (hd : Drops obs obs1) {F' S' : Nat → Prop} (hF : ∀ b, Fz B βs obs w b → F' b) (hS : ∀ b, B.S b → S' b) (hFS : ∀ L b, (getOb obs1 L).live = true → L < βs.length → bOf (bv βs L) = some b → F' b ∧ S' b) :
    ∀ {ps : List Pm} {caps : List Nat} {xs : PT ps}, capArgs ps caps obs1 = some xs → (∀ L ∈ caps, L < βs.length ∧ ∃ b, bv βs L = .pointer (some ⟨b, 0, none⟩)) →
    ArgsRep P J w F' S' ps xs (caps.map (bv βs)) ∧ ownBs ps (caps.map (bv βs)) = []
  | [], [], xs, _, _ => ⟨rfl, rfl⟩
  | .rptr k :: ps, L :: Ls, xs, hc, hL => by
    simp only [capArgs] at hc
    split at hc
    · rename_i x xs' hx hxs
      cases hc
      obtain ⟨g1, g2⟩ := capArgs_rep h hd hF hS hFS hxs (fun M hM => hL M (List.mem_cons_of_mem _ hM))
      obtain ⟨h1, b, h2⟩ := hL L (List.mem_cons_self ..)
      refine ⟨⟨_, _, rfl, ?_, g1⟩, g2⟩
      refine gatherPtr_rep (tv := .ptr L 0) h hd hF hS ⟨h1, b, h2, h2⟩ hx (fun M off b' e hl hb => ?_) (fun M off cs e hob c hc k' v y hr hy => ?_)
      · cases e; exact (hFS L b' hl h1 hb).2
      · refine toVal_S h hd hF (RVRep.toTV hr) hy (fun N b' hN hb => ?_)
        have hl : (getOb obs1 N).live = true := by
          rcases hN with ⟨_, e, l, q⟩ | ⟨_, kk, kv, m, q⟩ <;> rw [q] <;> rfl
        exact (hFS N b' hl (by rw [h.obs.len, ← hd.1]; exact getOb_live_lt hl) hb).1
    · cases hc
  | [], _ :: _, _, hc, _ => by simp [capArgs] at hc
  | .val _ :: _, _, _, hc, _ => by simp [capArgs] at hc
  | .own _ :: _, _, _, hc, _ => by simp [capArgs] at hc
  | .fnv _ _ :: _, _, _, hc, _ => by simp [capArgs] at hc
  | .nil _ :: _, _, _, hc, _ => by simp [capArgs] at hc
  | .rptr _ :: _, [], _, hc, _ => by simp [capArgs] at hc

theorem TVRep.ropMono {F F' S S' : Nat → Prop} {w' : World} {k : Kd} {x : k.T} {v : Value} (h : TVRep P J w F S [] (.rop k x) v) (hF : ∀ b, F b → F' b ∧ w'.heap[b]? = w.heap[b]?) (hS : ∀ b, S b → S' b ∧ w'.heap[b]? = w.heap[b]?) : TVRep P J w' F' S' [] (.rop k x) v := by
  obtain ⟨ad, h1, h2, cs, h3, h4, h5⟩ := h
  refine ⟨ad, h1, h2.imp (fun q => (hF _ q).1) (fun q => (hS _ q).1), cs, h3, fun j hj => ?_, Rd.mono hF h5⟩
  rw [← h4 j hj]
  exact World.cell?_of_block (w := w) (by rw [add_block]; exact h2.elim (fun q => (hF _ q).2) (fun q => (hS _ q).2))
theorem ArgsRep.capMono {F F' S S' : Nat → Prop} {w' : World} (hF : ∀ b, F b → F' b ∧ w'.heap[b]? = w.heap[b]?) (hS : ∀ b, S b → S' b ∧ w'.heap[b]? = w.heap[b]?) :
    ∀ {ps : List Pm} {caps : List Nat} {xs : PT ps} {vs : List Value}, capArgs ps caps obs1 = some xs → ArgsRep P J w F S ps xs vs → ArgsRep P J w' F' S' ps xs vs
  | [], [], _, _, _, h => h
  | .rptr k :: ps, L :: Ls, xs, vs, hc, ⟨v, r, e, h1, h2⟩ => by
    simp only [capArgs] at hc
    split at hc
    · rename_i x xs' hx hxs
      cases hc
      exact ⟨v, r, e, TVRep.ropMono (P := P) (J := J) h1 hF hS, ArgsRep.capMono hF hS hxs h2⟩
    · cases hc
  | [], _ :: _, _, _, hc, _ => by simp [capArgs] at hc
  | .val _ :: _, _, _, _, hc, _ => by simp [capArgs] at hc
  | .own _ :: _, _, _, _, hc, _ => by simp [capArgs] at hc
  | .fnv _ _ :: _, _, _, _, hc, _ => by simp [capArgs] at hc
  | .nil _ :: _, _, _, _, hc, _ => by simp [capArgs] at hc
  | .rptr _ :: _, [], _, _, hc, _ => by simp [capArgs] at hc

/-- a closure as a function -/
theorem cloFn_rep (h : Rep' P J B βs obs w) (hd : Drops obs obs1) {S' : Nat → Prop} (hS : ∀ b, B.S b → S' b) (hFz : ∀ b, Fz B βs obs w b → S' b) (hSz : ∀ b, S' b → b < w.heap.size)
    (hFS : ∀ L b, (getOb obs1 L).live = true → L < βs.length → bOf (bv βs L) = some b → S' b)
    {g k : Nat} {F : Fn} (hg : FnOK P J g F) {caps : List Nat} (hcaps : ∀ L ∈ caps, L < βs.length ∧ ∃ b, bv βs L = .pointer (some ⟨b, 0, none⟩)) {a r : Kd} (hr : r.flat = true) {f : a.T → Option r.T}
    (hf : cloFn k F caps obs1 a r = some f) : FnvRep P J w S' a r f (.func (.func g) #[] (caps.map (bv βs)).toArray) := by
  obtain ⟨ps, rs, ff⟩ := F
  refine ⟨hr, g, _, rfl, hg.enters, fun w' hI hgz hsz hsame F1 x vs y hF1 hargs hy => ?_⟩
  have hok := hg.ok k
  -- what the closure's call is
  have B2 : (⟨w', fun _ => False, fun b => b < w'.heap.size⟩ : Base).Ok J := ⟨fun b hb => ⟨hb, fun q => q⟩, hI, hgz, fun _ _ q => q⟩
  have post : ∀ {rr : Kd} {yy : rr.T} {e : Ending} {w'' : World}, rr.flat = true → Post ⟨w', fun _ => False, fun b => b < w'.heap.size⟩ [.val rr] yy e w'' → ∃ v, e = .returned v ∧ RdV w'' (fun _ => False) rr v yy ∧ Below w'.heap.size w' w'' := by
    rintro rr yy e w'' hflat ⟨vs', he, ⟨v, hv, hr'⟩, _, _, hext⟩
    subst hv
    exact ⟨v, he, RdV.flat_ hflat hr', hext.os, hext.tape, hext.output, hext.size, fun b hb => hext.block b hb (fun q => q)⟩
  have capr : ∀ {ps' : List Pm} {cs : PT ps'}, capArgs ps' caps obs1 = some cs → ArgsRep P J w' (fun b => b < w'.heap.size) (Base.S ⟨w', fun _ => False, fun b => b < w'.heap.size⟩) ps' cs (caps.map (bv βs)) ∧ ownBs ps' (caps.map (bv βs)) = [] := by
    intro ps' cs hcs
    obtain ⟨g1, g2⟩ := capArgs_rep (F' := S') (S' := S') h hd hFz hS (fun L b h1 h2 h3 => ⟨hFS L b h1 h2 h3, hFS L b h1 h2 h3⟩) hcs hcaps
    exact ⟨ArgsRep.capMono (fun b hb => ⟨Nat.lt_of_lt_of_le (hSz b hb) hsz, hsame b hb⟩) (fun b hb => ⟨⟨Nat.lt_of_lt_of_le (hSz b hb) hsz, fun q => q⟩, hsame b hb⟩) hcs g1, g2⟩
  have cast1 : ∀ {p : Kd} {v : Value} {z : p.T}, RdV w' F1 p v z → RdV w' (fun b => b < w'.heap.size) p v z := fun hz => RdV.mono (fun b hb => ⟨hF1 b hb, rfl⟩) hz
  unfold cloFn at hf
  simp only at hf
  split at hf
  · rename_i r' ff'
    split at hf
    · rename_i hrr _
      subst hrr
      split at hf
      · rename_i p ps' ff''
        split at hf
        · rename_i ha hpv _
          subst ha
          split at hf
          · rename_i cs hcs
            cases hf
            obtain ⟨g1, g2⟩ := capr hcs
            have hone : ∃ v, vs = [v] ∧ RdV w' F1 a v x := by
              cases a with
              | pair p q => cases hpv
              | _ => exact hargs
            obtain ⟨v, rfl, hv⟩ := hone
            have := hok ⟨w', fun _ => False, fun b => b < w'.heap.size⟩ (v :: caps.map (bv βs)) (x, cs) y B2 ⟨v, _, rfl, cast1 hv, g1⟩ (by simp only [ownBs, g2]; exact List.nodup_nil) (by intro b hb; simp only [ownBs, g2] at hb; cases hb) hy
            refine Calls.mono (by simpa using this) fun e w'' hp => post hr hp
          · cases hf
        · split at hf
          · rename_i q ps'' ff3 _ _
            split at hf
            · rename_i ha _
              subst ha
              split at hf
              · rename_i cs hcs
                cases hf
                obtain ⟨g1, g2⟩ := capr hcs
                obtain ⟨v1, v2, rfl, hv1, hv2⟩ := hargs
                have := hok ⟨w', fun _ => False, fun b => b < w'.heap.size⟩ (v1 :: v2 :: caps.map (bv βs)) (x.1, x.2, cs) y B2 ⟨v1, _, rfl, cast1 hv1, v2, _, rfl, cast1 hv2, g1⟩ (by simp only [ownBs, g2]; exact List.nodup_nil) (by intro b hb; simp only [ownBs, g2] at hb; cases hb) hy
                refine Calls.mono (by simpa using this) fun e w'' hp => post hr hp
              · cases hf
            · cases hf
          · cases hf
      · cases hf
    · cases hf
  · cases hf

end Go.Proofs.YtocgdpnealaoeaaDoor.Ev
