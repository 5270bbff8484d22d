/- The small evaluator's rules for look-ups and arithmetic are right (this session's own). No condition. -/
import Derived.Test.YtbliiipcjbmbiaaGreatDoorEvQ
import Derived.Laws.StructEq
namespace Go.Proofs.YtbliiipcjbmbiaaGreatDoor.Ev
open Go.RowKit
set_option linter.unusedVariables false
set_option linter.unusedSimpArgs false

variable {P : Program} {J : Inv} {Γ : Ctx} {B : Base} {C : LBase} {βs : List Value} {st : St} {a : Act} {w : World} {obs obs' : List Ob} {wr : Nat → Bool} {tv : TV}
variable (hΓ : CtxOK P J Γ) (h : Rep' P J B βs obs w)

theorem RVRep.toTV {F S : Nat → Prop} {r : RV} {v : Value} (hr : RVRep w F βs r v) : TVRep P J w F S βs r.tv v := by
  cases r with
  | val k x => exact hr
  | nilk e => exact hr
  | arr L => exact hr
  | map L => exact hr
  | ptr L off => exact hr
  | fn g caps => exact hr

include h in
theorem evExtract_ok {x : TV} {v : Value} {i : Nat} (hx : TR P J B βs obs w x v) (he : (evExtract x i obs).To (tv, obs')) : Gives P J B βs obs wr w (Instr.extract v i) tv obs' := by
  unfold evExtract at he
  split at he
  · rename_i l
    split at he
    · rename_i r hr
      obtain ⟨rfl, rfl⟩ := Res.to_nowV he
      obtain ⟨vs, rfl, h1, h2⟩ := hx
      obtain ⟨hi, rfl⟩ := List.getElem?_eq_some_iff.1 hr
      have hi' : i < vs.size := by omega
      refine Gives.now h (v := vs.getD i undef) ?_ (RVRep.toTV (h2 i hi))
      simp [Instr.extract, hi']
    · exact (Res.to_fail he).elim
  · exact (Res.to_fail he).elim

include h in
theorem evMinMax_ok {mx : Bool} {x y : TV} {vx vy : Value} {ts : Array Nat} {t : Nat} (hx : TR P J B βs obs w x vx) (hy : TR P J B βs obs w y vy) (he : (evMinMax mx x y obs).To (tv, obs')) :
    Gives P J B βs obs wr w (bif mx then Builtin.max_ ts t #[vx, vy] else Builtin.min_ ts t #[vx, vy]) tv obs' := by
  unfold evMinMax at he
  split at he
  · rename_i j m k n
    obtain rfl := rdv_int hx
    obtain rfl := rdv_int hy
    obtain ⟨rfl, rfl⟩ := Res.to_nowV he
    cases mx
    · exact Gives.now h (v := .int j (imin m n)) (by simp [cond, Builtin.min_, Builtin.min2, imin]) (mk_int _ _)
    · exact Gives.now h (v := .int j (imax m n)) (by simp [cond, Builtin.max_, Builtin.max2, imax]) (mk_int _ _)
  · exact (Res.to_fail he).elim

include h in
theorem evUnOp_ok {op : UnOp} {x : TV} {v : Value} (hx : TR P J B βs obs w x v) (he : (evUnOp op x obs).To (tv, obs')) : Gives P J B βs obs wr w (Op.unary op v) tv obs' := by
  unfold evUnOp at he
  split at he
  · obtain rfl := rdv_bool hx
    obtain ⟨rfl, rfl⟩ := Res.to_nowV he
    exact Gives.now h rfl (mk_bool _)
  · obtain rfl := rdv_int hx
    obtain ⟨rfl, rfl⟩ := Res.to_nowV he
    exact Gives.now h rfl (mk_int _ _)
  · exact (Res.to_fail he).elim

theorem cat?_some {a b r : ByteArray} (h : cat? a b = some r) : a.size + b.size ≤ 9223372036854775807 ∧ r = a ++ b := by
  unfold cat? at h
  split at h
  · rename_i h0; exact ⟨h0, (Option.some.inj h).symm⟩
  · cases h

include h in
theorem evBinInt_ok {op : BinOp} {j : IntKind} {m n : Int} {xt : Nat} (hop : isShift op = false) (he : (evBinInt op j m n obs).To (tv, obs')) : Gives P J B βs obs wr w (binOp op xt (.int j m) (.int j n)) tv obs' := by
  cases op
  case quo =>
    obtain ⟨r, hr, he⟩ := Res.to_bind he
    obtain ⟨rfl, rfl⟩ := Res.to_nowV he
    unfold iquo? at hr
    split at hr
    · cases hr
    · rename_i hn
      cases hr
      exact Gives.now h (v := .int j _) (by simp [binOp, Op.intDiv, hn]) (mk_int _ _)
  case rem =>
    obtain ⟨r, hr, he⟩ := Res.to_bind he
    obtain ⟨rfl, rfl⟩ := Res.to_nowV he
    unfold irem? at hr
    split at hr
    · cases hr
    · rename_i hn
      cases hr
      exact Gives.now h (v := .int j _) (by simp [binOp, Op.intDiv, hn]) (mk_int _ _)
  case shl => exact absurd hop (by decide)
  case shr => exact absurd hop (by decide)
  all_goals
    first
      | exact (Res.to_fail he).elim
      | (obtain ⟨rfl, rfl⟩ := Res.to_nowV he
         first
           | exact Gives.now h (v := .int j _) (by simp [binOp, Op.intArith, Op.intBits, iadd, isub, imul, iand, ior, ixor, iandn]) (mk_int _ _)
           | exact Gives.now h (v := .bool _) (by simp [binOp, Op.intCmp, ieq, ine, ilt, ile, igt, ige]) (mk_bool _))
include h in
theorem evShift_ok {op : BinOp} {j k : IntKind} {m n : Int} {xt : Nat} (he : (evShift op j m n obs).To (tv, obs')) : Gives P J B βs obs wr w (binOp op xt (.int j m) (.int k n)) tv obs' := by
  unfold evShift at he
  split at he
  · obtain ⟨r, hr, he⟩ := Res.to_bind he
    obtain ⟨rfl, rfl⟩ := Res.to_nowV he
    unfold ishl? at hr
    split at hr
    · cases hr
    · rename_i hn
      cases hr
      exact Gives.now h (v := .int j _) (by simp [binOp, Op.shift, hn]) (mk_int _ _)
  · obtain ⟨r, hr, he⟩ := Res.to_bind he
    obtain ⟨rfl, rfl⟩ := Res.to_nowV he
    unfold ishr? at hr
    split at hr
    · cases hr
    · rename_i hn
      cases hr
      exact Gives.now h (v := .int j _) (by simp [binOp, Op.shift, hn]) (mk_int _ _)
  · exact (Res.to_fail he).elim
include h in
theorem evBinStr_ok {op : BinOp} {m n : ByteArray} {xt : Nat} (he : (evBinStr op m n obs).To (tv, obs')) : Gives P J B βs obs wr w (binOp op xt (.string m) (.string n)) tv obs' := by
  cases op
  case add =>
    obtain ⟨r, hr, he⟩ := Res.to_bind he
    obtain ⟨rfl, rfl⟩ := Res.to_nowV he
    obtain ⟨h1, rfl⟩ := cat?_some hr
    have hn : ¬ (IntKind.i64.max < (m.size : Int) + (n.size : Int)) := by
      have : IntKind.i64.max = 9223372036854775807 := by decide
      omega
    have hn' : (m.size : Int) + (n.size : Int) ≤ IntKind.i64.max := by omega
    exact Gives.now h (v := .string (m ++ n)) (by simp [binOp, Op.stringOp, hn, hn']; omega) (mk_str _)
  all_goals
    first
      | exact (Res.to_fail he).elim
      | (obtain ⟨rfl, rfl⟩ := Res.to_nowV he
         exact Gives.now h (v := .bool _) (by simp [binOp, Op.stringOp, seq, sne, slt, sle, sgt, sge]) (mk_bool _))

theorem rdv_optr {F : Nat → Prop} {v : Value} {x : Bool} (hx : RdV w F .optr v x) : ∃ p : Option Addr, v = .pointer p ∧ x = p.isNone := by
  obtain ⟨_, vs, h1, p, rfl, h2⟩ := hx
  exact ⟨p, by simpa [valCells, Kd.isAgg] using h1.symm, h2⟩
include hΓ h in
theorem evPtrCmp_ok {op : BinOp} {t : Nat} {m : Option Bool} {p q : Option Addr} (hm : ∀ r el, m = some r → P.underlying t = some (.pointer el) → (∃ i, P.info? el = some i ∧ i.size ≠ 0) → (Op.equal t (.pointer p) (.pointer q)).run P w = .ok r w) (he : (evPtrCmp Γ op t m obs).To (tv, obs')) :
    Gives P J B βs obs wr w (binOp op t (.pointer p) (.pointer q)) tv obs' := by
  unfold evPtrCmp at he
  split at he
  · rename_i hk
    obtain ⟨el, hu, hi⟩ := hΓ.optr hk
    split at he
    · obtain ⟨r, hr, he⟩ := Res.to_bind he
      obtain ⟨rfl, rfl⟩ := Res.to_nowV he
      exact Gives.now h (v := .bool r) (by simp [binOp, hm r el hr hu hi]) (mk_bool _)
    · obtain ⟨r, hr, he⟩ := Res.to_bind he
      obtain ⟨rfl, rfl⟩ := Res.to_nowV he
      exact Gives.now h (v := .bool (bnot r)) (by simp [binOp, hm r el hr hu hi, bnot]) (mk_bool _)
    · exact (Res.to_fail he).elim
  · exact (Res.to_fail he).elim
theorem ptr_nil {t el : Nat} {p q : Option Addr} {r : Bool} (hu : P.underlying t = some (.pointer el)) (hr : pcmp? p.isNone q.isNone = some r) : (Op.equal t (.pointer p) (.pointer q)).run P w = .ok r w := by
  unfold Op.equal
  rw [show Op.maxDepth = 9999 + 1 from rfl, Op.equalIn]
  cases p with
  | none =>
    have hr : some q.isNone = some r := hr
    cases hr
    simp [run_underlying hu]
  | some a =>
    cases q with
    | none =>
      have hr : some false = some r := hr
      cases hr
      simp [run_underlying hu]
    | some b => cases hr
theorem ptr_same {t el : Nat} {b o o' : Nat} {i : TypeInfo} (hu : P.underlying t = some (.pointer el)) (hi : P.info? el = some i) (hz : i.size ≠ 0) : (Op.equal t (.pointer (some ⟨b, o, none⟩)) (.pointer (some ⟨b, o', none⟩))).run P w = .ok (Nat.beq o o') w := by
  unfold Op.equal
  rw [show Op.maxDepth = 9999 + 1 from rfl, Op.equalIn]
  have e : ((⟨b, o, none⟩ : Addr) == ⟨b, o', none⟩) = Nat.beq o o' := by
    by_cases q : o = o'
    · subst q; simp
    · have h1 : Nat.beq o o' = false := by
        cases hb : Nat.beq o o' with
        | false => rfl
        | true => exact absurd (Nat.eq_of_beq_eq_true hb) q
      rw [h1]
      simp [q]
  simp [run_underlying hu, sizeOf, typeInfo, hi, hz, sameAddr, e]
include hΓ h in
theorem evBinOp_ok {op : BinOp} {t : Nat} {x y : TV} {vx vy : Value} {ox oy : Operand} (hx : TR P J B βs obs w x vx) (hy : TR P J B βs obs w y vy) (he : (evBinOp Γ op t x y obs).To (tv, obs')) :
    Gives P J B βs obs wr w (do eqGuard op t ox oy vx vy; binOp op t vx vy) tv obs' := by
  have key : ∀ {vx vy : Value}, (eqGuard op t ox oy vx vy).run P w = .ok () w → Gives P J B βs obs wr w (binOp op t vx vy) tv obs' → Gives P J B βs obs wr w (do eqGuard op t ox oy vx vy; binOp op t vx vy) tv obs' := by
    rintro vx vy hg ⟨b, v, w', h1, h2⟩
    exact ⟨b, v, w', by simp [hg, h1], h2⟩
  unfold evBinOp at he
  split at he
  · rename_i j m k n
    obtain rfl := rdv_int hx
    obtain rfl := rdv_int hy
    refine key (by unfold eqGuard; cases op <;> rfl) ?_
    split at he
    · exact evShift_ok h he
    · rename_i hs
      split at he
      · rename_i hjk
        obtain rfl := ikEq_eq hjk
        exact evBinInt_ok h hs he
      · exact (Res.to_fail he).elim
  · rename_i m n
    obtain rfl := rdv_str hx
    obtain rfl := rdv_str hy
    exact key (by unfold eqGuard; cases op <;> rfl) (evBinStr_ok h he)
  · rename_i m n
    obtain rfl := rdv_bool hx
    obtain rfl := rdv_bool hy
    refine key (by unfold eqGuard; cases op <;> rfl) ?_
    split at he
    · rename_i hk
      have hu := hΓ.bool hk
      have hq : (Op.equal t (.bool m) (.bool n)).run P w = .ok (m == n) w := by
        unfold Op.equal
        rw [show Op.maxDepth = 9999 + 1 from rfl, Op.equalIn]
        simp [run_underlying hu]
      split at he
      · obtain ⟨rfl, rfl⟩ := Res.to_nowV he
        exact Gives.now h (v := .bool (beq2 m n)) (by simp [binOp, hq, beq2]) (mk_bool _)
      · obtain ⟨rfl, rfl⟩ := Res.to_nowV he
        exact Gives.now h (v := .bool (bne2 m n)) (by simp [binOp, hq, bne2]) (mk_bool _)
      · exact (Res.to_fail he).elim
    · exact (Res.to_fail he).elim
  · split at he
    · rename_i kt hkt
      split at he
      · rename_i hq ha hb
        have hx1 := RdV.cast hx ha
        have hy1 := RdV.cast hy hb
        obtain ⟨g1, g2⟩ := hΓ.eq _ _ hq hkt _ _ _ _ _ _ _ hx1 hy1
        obtain ⟨us, rfl, _⟩ := rdv_agg hx1
        obtain ⟨ws, rfl, _⟩ := rdv_agg hy1
        refine key (g1 _ _ _) ?_
        split at he
        · obtain ⟨rfl, rfl⟩ := Res.to_nowV he
          exact Gives.now h (v := .bool _) (by simp [binOp, g2]) (mk_bool _)
        · obtain ⟨rfl, rfl⟩ := Res.to_nowV he
          exact Gives.now h (v := .bool _) (by simp [binOp, g2, bnot]) (mk_bool _)
        · exact (Res.to_fail he).elim
      · exact (Res.to_fail he).elim
    · exact (Res.to_fail he).elim
  · obtain ⟨p, rfl, ep⟩ := rdv_optr hx
    obtain ⟨q, rfl, eq⟩ := rdv_optr hy
    exact key (by unfold eqGuard; cases op <;> rfl) (evPtrCmp_ok hΓ h (fun r el hm hu _ => ptr_nil hu (by rw [← ep, ← eq]; exact hm)) he)
  · obtain ⟨_, b, _, rfl⟩ := hx
    obtain ⟨q, rfl, eq⟩ := rdv_optr hy
    exact key (by unfold eqGuard; cases op <;> rfl) (evPtrCmp_ok hΓ h (fun r el hm hu _ => ptr_nil hu (by rw [← eq]; exact hm)) he)
  · obtain ⟨p, rfl, ep⟩ := rdv_optr hx
    obtain ⟨_, b, _, rfl⟩ := hy
    exact key (by unfold eqGuard; cases op <;> rfl) (evPtrCmp_ok hΓ h (fun r el hm hu _ => ptr_nil hu (by rw [← ep]; exact hm)) he)
  · rename_i L off L' off'
    obtain ⟨_, b, e1, rfl⟩ := hx
    obtain ⟨_, b', e2, rfl⟩ := hy
    refine key (by unfold eqGuard; cases op <;> rfl) (evPtrCmp_ok hΓ h (fun r el hm hu hi => ?_) he)
    obtain ⟨i, hi, hz⟩ := hi
    unfold lcmp? at hm
    split at hm
    · rename_i hL
      obtain rfl := Nat.eq_of_beq_eq_true hL
      cases hm
      rw [e1] at e2
      cases e2
      exact ptr_same hu hi hz
    · cases hm
  · exact (Res.to_fail he).elim

/-! ### equality of structs -/
/-- a field of a scalar kind -/
def EqF (P : Program) (f : Field) (off : Nat) (k : Kd) : Prop := f.name ≠ "_" ∧ f.offset = off ∧ (match k with
  | .int j => P.underlying f.type = some (.int j)
  | .bool => P.underlying f.type = some .bool
  | .str => P.underlying f.type = some .string
  | _ => False)
def EqFs (P : Program) : List Field → Nat → Kd → Prop
  | [f], off, k => EqF P f off k
  | f :: g :: fs, off, .pair a b => EqF P f off a ∧ EqFs P (g :: fs) (off + 1) b
  | _, _, _ => False
theorem eqF_ok {P : Program} {f : Field} {off d : Nat} {k : Kd} (h : EqF P f off k) {w : World} {F F' : Nat → Prop} {xs ys : Array Value} {cs ds : List Value} {x y : k.T} (hx : Rd w F k cs x) (hy : Rd w F' k ds y)
    (cx : ∀ i, i < cs.length → xs[off + i]? = cs[i]?) (cy : ∀ i, i < ds.length → ys[off + i]? = ds[i]?) :
    ∃ a b, (part f.type xs f.offset).run P w = .ok a w ∧ (part f.type ys f.offset).run P w = .ok b w ∧ (Op.equalIn (d + 1) f.type a b).run P w = .ok (kbeq k x y) w ∧ cs.length = 1 ∧ ds.length = 1 := by
  obtain ⟨h1, h2, h3⟩ := h
  have hp : ∀ {t : Nat} {dd : TypeDesc} {zs : Array Value} {v : Value}, P.underlying t = some dd → dd.isRow = false → zs[off]? = some v → (part t zs off).run P w = .ok v w := fun hu hr hz => by
    have := run_isAgg (w := w) hu
    rw [hr] at this
    simp [part, this, hz]
  cases k <;> simp only at h3
  · have hx : cs = [.int _ x] := hx
    have hy : ds = [.int _ y] := hy
    subst hx; subst hy
    have c1 := cx 0 (by simp)
    have c2 := cy 0 (by simp)
    simp only [Nat.add_zero, List.getElem?_cons_zero] at c1 c2
    rw [h2]
    exact ⟨_, _, hp h3 rfl c1, hp h3 rfl c2, by rw [run_equalIn_int w d _ _ _ _ _ h3]; rfl, rfl, rfl⟩
  · have hx : cs = [.bool x] := hx
    have hy : ds = [.bool y] := hy
    subst hx; subst hy
    have c1 := cx 0 (by simp)
    have c2 := cy 0 (by simp)
    simp only [Nat.add_zero, List.getElem?_cons_zero] at c1 c2
    rw [h2]
    exact ⟨_, _, hp h3 rfl c1, hp h3 rfl c2, by rw [run_equalIn_bool' w d _ _ _ h3]; rfl, rfl, rfl⟩
  · have hx : cs = [.string x] := hx
    have hy : ds = [.string y] := hy
    subst hx; subst hy
    have c1 := cx 0 (by simp)
    have c2 := cy 0 (by simp)
    simp only [Nat.add_zero, List.getElem?_cons_zero] at c1 c2
    rw [h2]
    exact ⟨_, _, hp h3 rfl c1, hp h3 rfl c2, by rw [run_equalIn_string w d _ _ _ h3]; rfl, rfl, rfl⟩
theorem eqFs_ok {P : Program} {w : World} {F F' : Nat → Prop} {d : Nat} {xs ys : Array Value} : ∀ {fs : List Field} {off : Nat} {k : Kd} {cs ds : List Value} {x y : k.T}, EqFs P fs off k → Rd w F k cs x → Rd w F' k ds y →
    (∀ i, i < cs.length → xs[off + i]? = cs[i]?) → (∀ i, i < ds.length → ys[off + i]? = ds[i]?) → (Op.eqFields (d + 1) xs ys fs).run P w = .ok (kbeq k x y) w
  | [], _, _, _, _, _, _, h, _, _, _, _ => h.elim
  | [f], off, k, cs, ds, x, y, h, hx, hy, cx, cy => by
    have h : EqF P f off k := by cases k <;> exact h
    obtain ⟨a, b, e1, e2, e3, _⟩ := eqF_ok (d := d) h hx hy cx cy
    unfold Op.eqFields
    rw [if_pos h.1]
    simp only [Sem.run_bind, e1, e2, e3, Result.andThen_ok]
    cases kbeq k x y <;> simp [Op.eqFields]
  | f :: g :: fs, off, k, cs, ds, x, y, h, hx, hy, cx, cy => by
    cases k with
    | pair a b =>
      obtain ⟨ca, cb, rfl, hxa, hxb⟩ := hx
      obtain ⟨da, db, rfl, hya, hyb⟩ := hy
      obtain ⟨h1, h2⟩ := h
      obtain ⟨u, v, e1, e2, e3, l1, l2⟩ := eqF_ok (d := d) h1 hxa hya (fun i hi => by rw [cx i (by rw [List.length_append]; omega), List.getElem?_append_left hi]) (fun i hi => by rw [cy i (by rw [List.length_append]; omega), List.getElem?_append_left hi])
      have ih := eqFs_ok (d := d) (xs := xs) (ys := ys) h2 hxb hyb (fun i hi => by
        have := cx (1 + i) (by rw [List.length_append]; omega)
        rw [List.getElem?_append_right (by omega), l1] at this
        rw [show off + 1 + i = off + (1 + i) by omega, this]
        congr 1; omega) (fun i hi => by
        have := cy (1 + i) (by rw [List.length_append]; omega)
        rw [List.getElem?_append_right (by omega), l2] at this
        rw [show off + 1 + i = off + (1 + i) by omega, this]
        congr 1; omega)
      rw [Op.eqFields, if_pos h1.1]
      simp only [Sem.run_bind, e1, e2, e3, Result.andThen_ok]
      show _ = Result.ok (kbeq a x.1 y.1 && kbeq b x.2 y.2) w
      cases kbeq a x.1 y.1
      · simp
      · simp only [Bool.not_true, Bool.false_eq_true, if_false, Bool.true_and]
        exact ih
    | _ => exact h.elim
/-- structs of scalar fields are compared field by field -/
theorem eqOK_agg {P : Program} {t : Nat} {c : Kd} {fs : Array Field} (hu0 : P.underlying t = some (.struct fs)) (hs : P.stoodInHeld t = false) (hg : P.eqGuardType P.depth t = false) (hf : EqFs P fs.toList 0 c) : EqOK P t (.agg c) := by
  have hfs : P.fieldsOf t = fs := by unfold Program.fieldsOf; rw [hu0]
  have hu : P.underlying t = some (.struct (P.fieldsOf t)) := by rw [hfs]; exact hu0
  rw [← hfs] at hf
  intro w F F' vx vy x y hx hy
  obtain ⟨us, rfl, r1⟩ := rdv_agg hx
  obtain ⟨ws, rfl, r2⟩ := rdv_agg hy
  refine ⟨fun op ox oy => ?_, ?_⟩
  · unfold eqGuard
    cases op <;> simp [hg, run_program]
  · unfold Op.equal
    rw [show Op.maxDepth = 9998 + 1 + 1 from rfl, run_equalIn_struct w (9998 + 1) t _ _ hu hs]
    exact eqFs_ok (d := 9998) (off := 0) (k := c) hf r1 r2 (fun i hi => by simp) (fun i hi => by simp)

/-! ### look-ups -/
theorem keyEq_now {k : Kd} {eq : k.T → k.T → Bool} (hk : Kd.keyEq k = some eq) {tk : Nat} (hK : KeyOK P tk k) {F F' : Nat → Prop} {w w' : World} {v1 v2 : Value} {x1 x2 : k.T} (h1 : RdV w F k v1 x1) (h2 : RdV w' F' k v2 x2) :
    ∃ d, P.underlying tk = some d ∧ Instr.sameNow d v1 v2 = some (eq x1 x2) ∧ ∀ e n W, (Instr.checkKey e (n + 1) tk v1).run P W = .ok () W := by
  cases k <;> simp only [Kd.keyEq, Option.some.injEq, reduceCtorEq] at hk
  · obtain rfl := hk
    obtain rfl := rdv_int h1
    obtain rfl := rdv_int h2
    have hK : P.underlying tk = _ := hK
    exact ⟨_, hK, by simp [Instr.sameNow, ieq], fun e n W => by simp [Instr.checkKey, run_underlying hK]⟩
  · obtain rfl := hk
    obtain rfl := rdv_bool h1
    obtain rfl := rdv_bool h2
    have hK : P.underlying tk = _ := hK
    exact ⟨_, hK, by simp [Instr.sameNow, beq2], fun e n W => by simp [Instr.checkKey, run_underlying hK]⟩
  · obtain rfl := hk
    obtain rfl := rdv_str h1
    obtain rfl := rdv_str h2
    have hK : P.underlying tk = _ := hK
    exact ⟨_, hK, by simp [Instr.sameNow, keq], fun e n W => by simp [Instr.checkKey, run_underlying hK]⟩

theorem valCells_rdv {F : Nat → Prop} {k : Kd} {cs : List Value} {v : Value} {x : k.T} (hk : k.isVal = true) (h1 : valCells k cs v) (h2 : Rd w F k cs x) : RdV w F k v x := ⟨hk, cs, h1, h2⟩

/-- the entry of a key, among entries that are these pairs -/
theorem findNow_pairs {kk kv : Kd} {eq : kk.T → kk.T → Bool} (hk : Kd.keyEq kk = some eq) {tk : Nat} (hK : KeyOK P tk kk) (hkk : kk.isVal = true) {F : Nat → Prop} {vk : Value} {key : kk.T} {F' : Nat → Prop} {w' : World} (hv : RdV w' F' kk vk key) {d : TypeDesc} (hd : P.underlying tk = some d) :
    ∀ (es : List MapEntry) (m : List (kk.T × kv.T)) (i : Nat), es.length = m.length →
      (∀ (j : Nat) (hj : j < m.length), ∃ en ck cv, es[j]? = some en ∧ valCells kk ck en.key ∧ valCells kv cv en.val ∧ Rd w F kk ck m[j].1 ∧ Rd w F kv cv m[j].2) →
      (∃ r, Instr.findNow d vk es i = some r ∧
        ((r = none ∧ mget? eq m key = none ∧ m.any (fun p => eq key p.1) = false) ∨
         ∃ (j : Nat) (hj : j < m.length) (en : MapEntry) (cv : List Value), r = some (i + j, en.val) ∧ es[j]? = some en ∧ valCells kv cv en.val ∧ Rd w F kv cv m[j].2 ∧ mget? eq m key = some m[j].2 ∧ eq key m[j].1 = true ∧ ∀ q (hq : q < j), eq key (m[q]'(by omega)).1 = false))
  | [], m, i, hl, _ => by
    have : m = [] := List.eq_nil_of_length_eq_zero (by simpa using hl.symm)
    subst this
    exact ⟨none, rfl, .inl ⟨rfl, rfl, rfl⟩⟩
  | e :: es, [], i, hl, _ => by simp at hl
  | e :: es, p :: m, i, hl, hall => by
    obtain ⟨en, ck, cv, h0, h1, h2, h3, h4⟩ := hall 0 (by simp)
    obtain rfl : e = en := by simpa using h0
    obtain ⟨d', hd', hs, _⟩ := keyEq_now hk hK hv (valCells_rdv hkk h1 h3)
    obtain rfl : d = d' := Option.some.inj (hd.symm.trans hd')
    simp only [List.getElem_cons_zero] at hs h3 h4
    cases hq : eq key p.1 with
    | true =>
      rw [hq] at hs
      refine ⟨some (i, e.val), by simp [Instr.findNow, hs], .inr ⟨0, by simp, e, cv, by simp, by simp, h2, by simpa using h4, by simp [mget?, List.find?, hq], by simpa using hq, fun q hq => by omega⟩⟩
    | false =>
      rw [hq] at hs
      obtain ⟨r, hr, hh⟩ := findNow_pairs hk hK hkk hv hd es m (i + 1) (by simpa using hl) (fun j hj => by obtain ⟨en, ck, cv, q0, q1, q2, q3, q4⟩ := hall (j + 1) (by simpa using hj); exact ⟨en, ck, cv, by simpa using q0, q1, q2, q3, q4⟩)
      refine ⟨r, by simp [Instr.findNow, hs, hr], ?_⟩
      rcases hh with ⟨rfl, g1, g2⟩ | ⟨j, hj, en, cv, rfl, g1, g2, g3, g4, g5, g6⟩
      · refine .inl ⟨rfl, ?_, by simp [hq, g2]⟩
        unfold mget? at g1 ⊢
        rw [List.find?_cons, hq]
        exact g1
      · refine .inr ⟨j + 1, by simpa using hj, en, cv, by simp; omega, by simpa using g1, g2, by simpa using g3, ?_, by simpa using g5, fun q hq' => ?_⟩
        · unfold mget? at g4 ⊢
          rw [List.find?_cons, hq]
          simpa using g4
        · cases q with
          | zero => simpa using hq
          | succ q => simpa using g6 q (by omega)

theorem zero_rdv {F : Nat → Prop} {t : Nat} {k : Kd} (hE : ElOK P t k) : ∃ z, (zeroValue t).run P w = .ok z w ∧ RdV w F k z k.dflt := by
  obtain ⟨i, h1, h2, z, h3, h4⟩ := hE.info
  exact ⟨z, by simp [zeroValue, typeInfo, h1, h3], hE.isVal, _, h4, Rd.zero k⟩

theorem castW_map {k p q : Kd} {x : k.T} {y : (Kd.map p q).T} (h : Kd.castW k (.map p q) x = some y) : ∃ e : k = .map p q, e ▸ x = y := by
  unfold Kd.castW at h
  split at h
  · rename_i e _
    exact ⟨e, Option.some.inj h⟩
  · rename_i hn
    cases k with
    | map a b =>
      simp only [Kd.conv] at h
      split at h
      · rename_i f hf
        split at hf
        · rename_i e he; rw [he] at hn; cases hn
        · cases hf
      · cases h
    | _ => simp [Kd.conv, Kd.eq?] at h
include hΓ h in
theorem evLookup_ok {t : Nat} {x i : TV} {v vi : Value} {ok : Bool} (hx : TR P J B βs obs w x v) (hi : TR P J B βs obs w i vi) (he : (evLookup Γ t x i ok obs).To (tv, obs')) :
    Gives P J B βs obs wr w (Instr.lookup t v vi ok) tv obs' := by
  unfold evLookup at he
  split at he
  · rename_i kk kv hk
    split at he
    · rename_i m eq key hm heq hkey
      obtain ⟨tk, te, hu, hE, hK⟩ := hΓ.map hk
      have hkv := toVal_rep h.obs hi hkey
      have hmv := toVal_rep h.obs hx hm
      have hkk : kk.isVal = true := hkv.1
      obtain ⟨d, hd, _, hck⟩ := keyEq_now heq hK hkv hkv
      have hmain : ∃ u, (Instr.lookup t v vi ok).run P w = .ok (if ok then .tuple #[u, .bool (isS (mget? eq m key))] else u) w ∧ RdV w (Fz B βs obs w) kv u (orD (mget? eq m key) kv.dflt) := by
        obtain ⟨z, hz1, hz2⟩ := zero_rdv (w := w) (F := Fz B βs obs w) hE
        have hc : (∀ e : Bool, (Instr.checkKey e 10000 tk vi).run P w = .ok () w) := fun e => hck e 9999 w
        have hmis : (v = .map none ∧ m = []) ∨ ∃ r, v = .map (some r) ∧ MapIs w (Fz B βs obs w) kk kv r m := by
          cases x with
          | val k' y =>
            obtain ⟨e1, rfl⟩ := castW_map hm
            subst e1
            rcases rdv_map hx with h1 | ⟨r, h1, _, h3⟩
            · exact .inl h1
            · exact .inr ⟨r, h1, h3⟩
          | map L =>
            obtain ⟨hL, rfl⟩ := hx
            have hr := h.obs.rep L hL
            simp only [toVal] at hm
            split at hm
            · rename_i kk' kv' m' ho
              rw [ho] at hr
              obtain ⟨e1, rfl⟩ := Kd.cast_some hm
              cases e1
              obtain ⟨r, h1, h2⟩ := hr
              exact .inr ⟨r, h1, h2⟩
            · rename_i kk' kv' m' ho
              rw [ho] at hr
              obtain ⟨e1, rfl⟩ := Kd.cast_some hm
              cases e1
              rcases rdv_map hr with h1 | ⟨r, h1, _, h3⟩
              · exact .inl h1
              · exact .inr ⟨r, h1, h3⟩
            · cases hm
          | arr L =>
            simp only [toVal] at hm
            split at hm
            · obtain ⟨e1, _⟩ := Kd.cast_some hm; cases e1
            · obtain ⟨e1, _⟩ := Kd.cast_some hm; cases e1
            · cases hm
          | nilk e =>
            simp only [toVal] at hm
            obtain ⟨e1, _⟩ := castW_map hm; cases e1
          | nil => simp [toVal] at hm
          | _ => simp [toVal, constV] at hm
        rcases hmis with ⟨rfl, rfl⟩ | ⟨r, rfl, es, clock, h1, ⟨h2, _⟩, h3⟩
        · refine ⟨z, ?_, hz2⟩
          cases ok <;> simp [Instr.lookup, run_underlying hu, hc, Instr.findKey, run_underlying hd, Instr.findNow, hz1, isS, mget?]
        · obtain ⟨rr, hr, hh⟩ := findNow_pairs (w := w) heq hK hkk hkv hd es.toList m 0 (by simpa using h2) (fun j hj => by simpa using h3 j hj)
          have hget : (getObj r).run P w = .ok (.map es clock) w := by simp [getObj, Sem.run, h1]
          rcases hh with ⟨rfl, g1, g2⟩ | ⟨j, hj, en, cv, rfl, g1, g2, g3, g4, g5, g6⟩
          · refine ⟨z, ?_, by rw [g1]; exact hz2⟩
            cases ok <;> simp [Instr.lookup, run_underlying hu, hget, hc, Instr.findKey, run_underlying hd, hr, hz1, g1, isS]
          · refine ⟨en.val, ?_, by rw [g4]; exact ⟨hE.isVal, cv, g2, g3⟩⟩
            cases ok <;> simp [Instr.lookup, run_underlying hu, hget, hc, Instr.findKey, run_underlying hd, hr, g4, isS]
      obtain ⟨u, hrun, hu'⟩ := hmain
      split at he
      · obtain ⟨rfl, rfl⟩ := Res.to_nowV he
        refine Gives.now h hrun ⟨_, rfl, rfl, fun i hi => ?_⟩
        match i, hi with
        | 0, _ => exact hu'
        | 1, _ => exact mk_bool _
      · obtain ⟨rfl, rfl⟩ := Res.to_nowV he
        exact Gives.now h hrun hu'
    · exact (Res.to_fail he).elim
  · exact (Res.to_fail he).elim

end Go.Proofs.YtbliiipcjbmbiaaGreatDoor.Ev
