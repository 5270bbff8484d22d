/- The small evaluator is right: regions that draw their order, with calls among them that come in order (this session's own). No condition. -/
import Derived.Test.YtbliiipcjbmbiaaGreatDoorGb
namespace Go.Proofs.YtbliiipcjbmbiaaGreatDoor.Ev
open Go.RowKit
set_option linter.unusedVariables false
set_option linter.unusedSimpArgs false

variable {P : Program} {J : Inv} {Γ : Ctx} {B : Base} {C : LBase} {βs : List Value} {st : St} {a : Act} {w w' : World}

/-! ### what only reads what stood at the beginning -/
def Res.setO (obs : List Ob) : RS → RS
  | .fail => .fail
  | .now p => .now (p.1, obs)
  | .ite c x y => .ite c (x.setO obs) (y.setO obs)
  | .bind α m f => .bind α m fun a => (f a).setO obs
theorem Res.to_setO {obs obs' : List Ob} {tv : TV} : ∀ {r : RS}, (r.setO obs).To (tv, obs') → obs' = obs ∧ ∃ o, r.To (tv, o)
  | .fail, h => (Res.to_fail h).elim
  | .now p, h => by
    have h := Res.to_now (b := (p.1, obs)) h
    cases h
    exact ⟨rfl, p.2, rfl⟩
  | .ite c x y, h => by
    rcases Res.to_ite (c := c) (x := x.setO obs) (y := y.setO obs) h with ⟨hc, h⟩ | ⟨hc, h⟩
    · obtain ⟨h1, o, h2⟩ := Res.to_setO (r := x) h; exact ⟨h1, o, by rw [hc]; exact h2⟩
    · obtain ⟨h1, o, h2⟩ := Res.to_setO (r := y) h; exact ⟨h1, o, by rw [hc]; exact h2⟩
  | .bind α m f, h => by
    obtain ⟨a, hm, h⟩ := Res.to_bind (f := fun a => (f a).setO obs) h
    obtain ⟨h1, o, h2⟩ := Res.to_setO (r := f a) h; exact ⟨h1, o, by rw [hm]; exact h2⟩
theorem Res.setO_to {obs o : List Ob} {tv : TV} : ∀ {r : RS}, r.To (tv, o) → (r.setO obs).To (tv, obs)
  | .fail, h => (Res.to_fail h).elim
  | .now p, h => by
    have h := Res.to_now h
    subst h; rfl
  | .ite c x y, h => by
    rcases Res.to_ite h with ⟨hc, h⟩ | ⟨hc, h⟩
    · rw [hc]; exact Res.setO_to (r := x) h
    · rw [hc]; exact Res.setO_to (r := y) h
  | .bind α m f, h => by
    obtain ⟨a, hm, h⟩ := Res.to_bind h
    rw [hm]; exact Res.setO_to (r := f a) h
/-- it gives the same in whatever state -/
def Blind (f : List Ob → RS) : Prop := ∀ obs, f obs = (f []).setO obs
theorem Blind.ext {f : List Ob → RS} (hf : Blind f) {obs0 obs1 obs' : List Ob} {tv : TV} (h : (f obs0).To (tv, obs')) : obs' = obs0 ∧ (f obs1).To (tv, obs1) := by
  rw [hf obs0] at h
  obtain ⟨h1, o, h2⟩ := Res.to_setO h
  exact ⟨h1, by rw [hf obs1]; exact Res.setO_to h2⟩
theorem blind_now (tv : TV) : Blind (nowV tv) := fun _ => rfl
theorem blind_fail : Blind (fun _ => Res.fail) := fun _ => rfl
theorem blind_move {wr : Nat → Bool} {d : Option Nat} {t : Nat} {tv : TV} (hd : isIn d Γ.vals = false) : Blind (evMove Γ wr d t tv) := fun obs => by
  unfold evMove
  rw [hd]
  cases tv with
  | nil =>
    dsimp only
    cases kindOf Γ t with
    | none => rfl
    | some k => cases k <;> rfl
  | _ => rfl
theorem blind_pick {c a b : TV} : Blind (evPick c a b) := fun obs => by
  unfold evPick
  cases c with
  | val k x => cases k <;> rfl
  | _ => rfl
theorem blind_nilCheck {x : TV} : Blind (evNilCheck x) := fun obs => by
  unfold evNilCheck
  cases x <;> rfl
theorem blind_extract {x : TV} {i : Nat} : Blind (evExtract x i) := fun obs => by
  unfold evExtract
  cases x with
  | tup l => dsimp only; cases l[i]? <;> rfl
  | _ => rfl
theorem blind_unOp {op : UnOp} {x : TV} : Blind (evUnOp op x) := fun obs => by
  unfold evUnOp
  split <;> rfl
theorem blind_field {s f : Nat} {x : TV} : Blind (evField Γ s x f) := fun obs => by
  unfold evField
  repeat' split
  all_goals first | rfl | simp_all [Res.setO, nowV]
theorem blind_fieldAddr {s f : Nat} {x : TV} : Blind (evFieldAddr Γ s x f) := fun obs => by
  unfold evFieldAddr
  repeat' split
  all_goals first | rfl | simp_all [Res.setO, nowV]
theorem blind_binInt {op : BinOp} {j : IntKind} {x y : Int} : Blind (evBinInt op j x y) := fun obs => by
  unfold evBinInt
  cases op <;> rfl
theorem blind_shift {op : BinOp} {j : IntKind} {x y : Int} : Blind (evShift op j x y) := fun obs => by
  unfold evShift
  cases op <;> rfl
theorem blind_binStr {op : BinOp} {x y : ByteArray} : Blind (evBinStr op x y) := fun obs => by
  unfold evBinStr
  cases op <;> rfl
theorem blind_ptrCmp {op : BinOp} {t : Nat} {m : Option Bool} : Blind (evPtrCmp Γ op t m) := fun obs => by
  unfold evPtrCmp
  repeat' split
  all_goals rfl
theorem blind_binOp {op : BinOp} {t : Nat} {x y : TV} : Blind (evBinOp Γ op t x y) := fun obs => by
  unfold evBinOp
  repeat' split
  all_goals first | rfl | exact blind_shift obs | exact blind_binInt obs | exact blind_binStr obs | exact blind_ptrCmp obs | simp_all [Res.setO, nowV]

theorem blind_index {t : Nat} {x i : TV} : Blind (evIndex Γ t x i) := fun obs => by
  unfold evIndex
  repeat' split
  all_goals rfl
theorem blind_sliceS {own vw : Bool} {wr : Nat → Bool} {t : Nat} {x : TV} {lo hi : Option TV} (ht : kindOf Γ t = some .str) : Blind (evSlice Γ own vw wr t x lo hi none) := fun obs => by
  unfold evSlice
  rw [ht]
  dsimp only
  split
  · split <;> rfl
  · rfl
/-- whatever the one list tells, the other tells, too -/
def Ge (a b : List Ob) : Prop := ∀ L, getOb a L ≠ .dead → getOb b L = getOb a L
theorem toVal_ext {k : Kd} {tv : TV} {obs0 ob2 : List Ob} (hge : Ge obs0 ob2) {x : k.T} (h : toVal k tv obs0 = some x) : toVal k tv ob2 = some x := by
  cases tv with
  | arr L =>
    simp only [toVal] at h ⊢
    rw [hge _ fun q => by rw [q] at h; cases h]
    exact h
  | map L =>
    simp only [toVal] at h ⊢
    rw [hge _ fun q => by rw [q] at h; cases h]
    exact h
  | _ => exact h
theorem gather_ext {obs0 ob2 : List Ob} (hge : Ge obs0 ob2) : ∀ {k : Kd} {cs : List RV} {y : k.T × List RV}, gather k cs obs0 = some y → gather k cs ob2 = some y
  | .pair p q, cs, y, h => by
    simp only [gather] at h ⊢
    split at h
    · rename_i x cs1 h1
      rw [gather_ext hge h1]
      dsimp only
      split at h
      · rename_i z cs2 h2
        rw [gather_ext hge h2]
        exact h
      · cases h
    · cases h
  | .agg c, cs, y, h => gather_ext hge (k := c) (y := y) h
  | .unit, cs, y, h => h
  | .int j, c :: cs, y, h => by
    simp only [gather] at h ⊢
    split at h
    · rename_i x hx; rw [toVal_ext hge hx]; exact h
    · cases h
  | .bool, c :: cs, y, h => by
    simp only [gather] at h ⊢
    split at h
    · rename_i x hx; rw [toVal_ext hge hx]; exact h
    · cases h
  | .str, c :: cs, y, h => by
    simp only [gather] at h ⊢
    split at h
    · rename_i x hx; rw [toVal_ext hge hx]; exact h
    · cases h
  | .slice e, c :: cs, y, h => by
    simp only [gather] at h ⊢
    split at h
    · rename_i x hx; rw [toVal_ext hge hx]; exact h
    · cases h
  | .map kk kv, c :: cs, y, h => by
    simp only [gather] at h ⊢
    split at h
    · rename_i x hx; rw [toVal_ext hge hx]; exact h
    · cases h
  | .iter g kk kv, c :: cs, y, h => by
    simp only [gather] at h ⊢
    split at h
    · rename_i x hx; rw [toVal_ext hge hx]; exact h
    · cases h
  | .oslice n, c :: cs, y, h => by
    simp only [gather] at h ⊢
    split at h
    · rename_i x hx; rw [toVal_ext hge hx]; exact h
    · cases h
  | .optr, c :: cs, y, h => by
    simp only [gather] at h ⊢
    split at h
    · rename_i x hx; rw [toVal_ext hge hx]; exact h
    · cases h
  | .ofn, c :: cs, y, h => by
    simp only [gather] at h ⊢
    split at h
    · rename_i x hx; rw [toVal_ext hge hx]; exact h
    · cases h
  | .ofn, [], y, h => by cases h
  | .oslice n, [], y, h => by cases h
  | .optr, [], y, h => by cases h
  | .int j, [], y, h => by cases h
  | .bool, [], y, h => by cases h
  | .str, [], y, h => by cases h
  | .slice e, [], y, h => by cases h
  | .map kk kv, [], y, h => by cases h
  | .iter g kk kv, [], y, h => by cases h
theorem frz1_ext {tv : TV} {obs0 ob2 obs1 : List Ob} (hge : Ge obs0 ob2) (hs : ∀ L, (tv = .arr L ∨ tv = .map L) → getOb obs0 L ≠ .dead) (h : frz1 (fun _ => false) tv obs0 = some obs1) : obs1 = obs0 ∧ frz1 (fun _ => false) tv ob2 = some ob2 := by
  cases tv with
  | arr L =>
    simp only [frz1] at h ⊢
    rw [hge _ (hs L (.inl rfl))]
    split at h
    · cases h
    · cases h
      exact ⟨rfl, rfl⟩
  | map L =>
    simp only [frz1] at h ⊢
    rw [hge _ (hs L (.inr rfl))]
    split at h
    · cases h
    · cases h
      exact ⟨rfl, rfl⟩
  | _ => cases h; exact ⟨rfl, rfl⟩
theorem frzAll_ext {obs0 ob2 : List Ob} (hge : Ge obs0 ob2) : ∀ {l : List TV} {obs1 : List Ob}, (∀ tv ∈ l, ∀ L, (tv = .arr L ∨ tv = .map L) → getOb obs0 L ≠ .dead) → frzAll (fun _ => false) l obs0 = some obs1 → obs1 = obs0 ∧ frzAll (fun _ => false) l ob2 = some ob2
  | [], obs1, _, h => by cases h; exact ⟨rfl, rfl⟩
  | c :: cs, obs1, hs, h => by
    simp only [frzAll] at h ⊢
    split at h
    · rename_i o ho
      obtain ⟨rfl, h2⟩ := frz1_ext hge (hs c List.mem_cons_self) ho
      rw [h2]
      exact frzAll_ext hge (fun tv htv => hs tv (List.mem_cons_of_mem _ htv)) h
    · cases h
theorem gather_live {obs : List Ob} : ∀ {k : Kd} {cs : List RV} {y : k.T × List RV}, gather k cs obs = some y → y.2 = cs.drop k.sz ∧ ∀ c ∈ cs.take k.sz, ∀ M, (c.tv = .arr M ∨ c.tv = .map M) → getOb obs M ≠ .dead := by
  have one : ∀ {k : Kd} {c : RV} {x : k.T}, toVal k c.tv obs = some x → ∀ M, (c.tv = .arr M ∨ c.tv = .map M) → getOb obs M ≠ .dead := fun {k c x} h M hM q => by
    rcases hM with hM | hM <;> rw [hM] at h <;> simp only [toVal, q] at h <;> cases h
  intro k
  induction k with
  | pair p q ihp ihq =>
    intro cs y h
    simp only [gather] at h
    split at h
    · rename_i x cs1 h1
      split at h
      · rename_i z cs2 h2
        cases h
        obtain ⟨a1, a2⟩ := ihp h1
        obtain ⟨b1, b2⟩ := ihq h2
        dsimp only at a1 b1
        subst a1
        refine ⟨by rw [b1, List.drop_drop]; rfl, fun c hc M hM => ?_⟩
        rw [show (Kd.pair p q).sz = p.sz + q.sz from rfl, List.take_add] at hc
        rcases List.mem_append.1 hc with hc | hc
        · exact a2 c hc M hM
        · exact b2 c hc M hM
      · cases h
    · cases h
  | agg c ih => intro cs y h; exact ih (y := y) h
  | unit => intro cs y h; cases h; exact ⟨rfl, fun c hc => by cases hc⟩
  | _ =>
    intro cs y h
    cases cs with
    | nil => cases h
    | cons c cs =>
      simp only [gather] at h
      split at h
      · rename_i x hx
        cases h
        refine ⟨rfl, fun c' hc => ?_⟩
        obtain rfl : c' = c := by simpa [Kd.sz] using hc
        exact one hx
      · cases h
theorem load_ext {t : Nat} {x : TV} {obs0 ob2 obs' : List Ob} {tv : TV} (hge : Ge obs0 ob2) (h : (evLoad Γ (fun _ => false) t x obs0).To (tv, obs')) :
    obs' = obs0 ∧ (evLoad Γ (fun _ => false) t x ob2).To (tv, ob2) := by
  unfold evLoad at h ⊢
  split at h
  · exact (Res.to_fail h).elim
  rename_i k hk
  split at h
  · split at h
    · rename_i y h1 h2
      obtain ⟨rfl, rfl⟩ := Res.to_nowV h
      refine ⟨rfl, ?_⟩
      first | rfl | (rw [h1, h2]; rfl)
    · exact (Res.to_fail h).elim
  · rename_i L off
    split at h
    rotate_left
    · exact (Res.to_fail h).elim
    rename_i cs hcs
    have hg : getOb ob2 L = .box cs := by rw [hge _ (by rw [hcs]; intro q; cases q), hcs]
    split at h
    · rename_i c
      split at h
      rotate_left
      · exact (Res.to_fail h).elim
      rename_i c1 hak
      split at h
      rotate_left
      · exact (Res.to_fail h).elim
      rename_i hsm
      split at h
      · rename_i y r ob1 h1 h2
        obtain ⟨rfl, rfl⟩ := Res.to_nowV h
        obtain ⟨rfl, h3⟩ := frzAll_ext hge (fun tv htv M hM => by
          obtain ⟨c', hc', rfl⟩ := List.mem_map.1 htv
          exact (gather_live h1).2 c' hc' M hM) h2
        refine ⟨rfl, ?_⟩
        rw [hg]
        dsimp only
        rw [hak]
        dsimp only
        rw [hsm]
        dsimp only
        rw [gather_ext hge h1, h3]; rfl
      · exact (Res.to_fail h).elim
    · rename_i k' hne
      split at h
      · rename_i r hr
        obtain ⟨rfl, rfl⟩ := Res.to_nowV h
        refine ⟨rfl, ?_⟩
        rw [hg]
        dsimp only
        cases k with
        | agg c => exact (hne c rfl).elim
        | _ => first | rfl | (rw [hr]; rfl)
      · exact (Res.to_fail h).elim
  · rename_i e L i off
    split at h
    rotate_left
    · exact (Res.to_fail h).elim
    rename_i e' l hl
    split at h
    · rename_i l' f h1 h2
      obtain ⟨rfl, rfl⟩ := Res.to_nowV h
      refine ⟨rfl, ?_⟩
      rw [hge _ (by rw [hl]; intro q; cases q), hl]
      dsimp only
      rw [h1, h2]; rfl
    · exact (Res.to_fail h).elim
  · exact (Res.to_fail h).elim
theorem still_ok {o : Oper} (ho : isStill Γ o = true) {k : Nat} {ρ : Operand → TV} {obs0 ob2 obs' : List Ob} (hge : Ge obs0 ob2) {tv : TV} (h : (evalOp0 Γ (fun _ => false) k o ρ obs0).To (tv, obs')) : (evalOp Γ (fun _ => false) k o ρ ob2).To (tv, ob2) := by
  unfold isStill at ho
  rw [Bool.and_eq_true, Bool.not_eq_true', Bool.or_eq_true] at ho
  obtain ⟨h1, h2⟩ := ho
  unfold evalOp
  rw [h2]
  dsimp only
  obtain ⟨dst, op, type, pos, after, guard⟩ := o
  rcases h1 with h1 | h1
  rotate_left
  · unfold strOp at h1
    unfold evalOp0 at h ⊢
    cases op with
    | index t x i => exact (blind_index.ext h).2
    | slice t x lo hi mx =>
      cases mx with
      | none =>
        dsimp only at h1
        split at h1
        · rename_i ht
          exact ((blind_sliceS ht).ext h).2
        · cases h1
      | some _ => cases h1
    | _ => cases h1
  unfold stillOp at h1
  unfold evalOp0 at h ⊢
  cases op with
  | move x => exact ((blind_move h2).ext h).2
  | assign x => exact ((blind_move h2).ext h).2
  | pick c x y => exact (blind_pick.ext h).2
  | load t x => exact (load_ext hge h).2
  | nilCheck x => exact (blind_nilCheck.ext h).2
  | fieldAddr s x f => exact (blind_fieldAddr.ext h).2
  | field s x f => exact (blind_field.ext h).2
  | extract x i => exact (blind_extract.ext h).2
  | binOp op t x y ty => exact (blind_binOp.ext h).2
  | unOp op t x => exact (blind_unOp.ext h).2
  | _ => cases h1

theorem elemsOf_ext {e : Kd} {obs0 ob2 : List Ob} (hge : Ge obs0 ob2) : ∀ {ps : List (Nat × TV)} {i : Nat} {l : List e.T}, elemsOf e i ps obs0 = some l → elemsOf e i ps ob2 = some l ∧ ∀ q ∈ ps, ∀ M, (q.2 = .arr M ∨ q.2 = .map M) → getOb obs0 M ≠ .dead
  | [], i, l, h => ⟨h, fun q hq => by cases hq⟩
  | (j, tv) :: r, i, l, h => by
    simp only [elemsOf] at h ⊢
    split at h
    · rename_i hij
      rw [if_pos hij]
      split at h
      · rename_i x xs h1 h2
        obtain ⟨g1, g2⟩ := elemsOf_ext hge h2
        rw [toVal_ext hge h1, g1]
        refine ⟨h, fun q hq M hM hd => ?_⟩
        rcases List.mem_cons.1 hq with rfl | hq
        · rcases hM with hM | hM <;> (dsimp only at hM; rw [hM] at h1; simp only [toVal, hd] at h1; cases h1)
        · exact g2 q hq M hM hd
      · cases h
    · cases h
theorem build_ok {o : Oper} (ho : isBuild Γ o = true) {k : Nat} {ρ : Operand → TV} {obs0 ob2 obs' : List Ob} (hge : Ge obs0 ob2) {L : Nat} {e : Kd} {l : List e.T} (h : (evalOp0 Γ (fun _ => false) k o ρ obs0).To (.arr L, obs')) (hL : getOb obs' L = .arr e l)
    (hb : boxesBelow ob2.length ob2 = true) : (evalOp Γ (fun _ => false) k o ρ ob2).To (.val (.slice e) l, ob2) := by
  obtain ⟨dst, op, type, pos, after, guard⟩ := o
  unfold isBuild at ho
  unfold evalOp
  cases op with
  | buildSlice t n ps =>
    have ho : isIn dst Γ.vals = true := ho
    dsimp only at ho ⊢
    rw [ho]
    dsimp only
    unfold evalOp0 at h ⊢
    dsimp only at h ⊢
    unfold evBuildSlice at h ⊢
    split at h
    · rename_i e' hk
      split at h
      · rename_i l' ob1 h1 h2
        split at h
        · rename_i hc
          have := Res.to_nowV h
          obtain ⟨q1, q2⟩ := this
          obtain ⟨g1, g2⟩ := elemsOf_ext hge h1
          obtain ⟨rfl, g3⟩ := frzAll_ext hge (fun tv htv M hM => by
            obtain ⟨q, hq, rfl⟩ := List.mem_map.1 htv
            exact g2 q hq M hM) h2
          cases q2
          have hc' := hc
          rw [g1, g3]
          dsimp only
          have hL : (Ob.arr e' l') = .arr e l := by
            cases q1
            rw [← hL]
            unfold getOb
            rw [List.getD_eq_getElem?_getD, List.getElem?_append_right (Nat.le_refl _)]
            simp
          cases hL
          have hf : forget ob2.length (.arr ob2.length, ob2 ++ [.arr e l]) = some (.val (.slice e) l, ob2) := by
            have hg : getOb (ob2 ++ [Ob.arr e l]) ob2.length = .arr e l := by
              unfold getOb
              rw [List.getD_eq_getElem?_getD, List.getElem?_append_right (Nat.le_refl _)]
              simp
            have ht : (ob2 ++ [Ob.arr e l]).take ob2.length = ob2 := by simp
            unfold forget
            dsimp only
            rw [hg]
            dsimp only
            rw [ht, hb]
            have : (Nat.beq (ob2.length + 1) (ob2 ++ [Ob.arr e l]).length && Nat.ble ob2.length ob2.length && true) = true := by simp
            rw [this]
          first | rw [if_pos hc'] | rw [hc'] | skip
          show (Res.mapR (forget ob2.length) (.now (.arr ob2.length, ob2 ++ [.arr e l]))).To _
          unfold Res.mapR
          rw [hf]
          rfl
        · exact (Res.to_fail h).elim
      · exact (Res.to_fail h).elim
    · exact (Res.to_fail h).elim
  | _ => cases ho

theorem killArr_get : ∀ (l : List Ob) (L : Nat), getOb (killArr l) L = match isArr (getOb l L) with
    | true => .dead
    | false => getOb l L
  | [], L => by cases L <;> rfl
  | o :: r, 0 => rfl
  | o :: r, L + 1 => killArr_get r L
theorem killL_get : ∀ (S : List Nat) (l : List Ob) (L : Nat), getOb (killL S l) L = .dead ∨ (getOb (killL S l) L = getOb l L ∧ S.any (Nat.beq L) = false)
  | [], l, L => .inr ⟨rfl, rfl⟩
  | M :: S, l, L => by
    rw [killL]
    rcases killL_get S (l.set M .dead) L with h | ⟨h1, h2⟩
    · exact .inl h
    · by_cases e : L = M
      · subst e
        refine .inl ?_
        rw [h1]
        unfold getOb
        rw [List.getD_eq_getElem?_getD]
        by_cases hl : L < l.length
        · rw [List.getElem?_set_self hl]; rfl
        · rw [List.getElem?_eq_none (by rw [List.length_set]; omega)]; rfl
      · refine .inr ⟨?_, ?_⟩
        · rw [h1]
          unfold getOb
          rw [List.getD_eq_getElem?_getD, List.getD_eq_getElem?_getD, List.getElem?_set_ne (fun q => e q.symm)]
        · rw [List.any_cons, h2, Bool.or_false]
          cases hb : Nat.beq L M with
          | false => rfl
          | true => exact absurd (Nat.eq_of_beq_eq_true hb) e
theorem chainObs_ge (bB : Bool) (S : List Nat) (obs : List Ob) : Ge (chainObs bB S obs) obs := fun L hd => by
  unfold chainObs at hd ⊢
  rcases killL_get S (chainB bB obs) L with h | ⟨h1, h2⟩
  · exact absurd h hd
  rw [h1] at hd ⊢
  cases bB with
  | false => rfl
  | true =>
    unfold chainB at hd ⊢
    dsimp only at hd ⊢
    rw [killArr_get] at hd ⊢
    cases hA : isArr (getOb obs L) with
    | true => rw [hA] at hd; exact absurd rfl hd
    | false => rfl
theorem chainWr_facts {bB : Bool} {S : List Nat} {st : St} {L : Nat} (hL : L < st.obs.length) (hw : chainWr bB S st L = true) : st.wr L = true ∧ getOb (chainObs bB S st.obs) L = .dead := by
  unfold chainWr at hw
  rw [Bool.or_eq_true, Bool.or_eq_true, Bool.and_eq_true, Bool.and_eq_true, Bool.and_eq_true] at hw
  unfold chainObs
  rcases hw with (q | ⟨q1, q2, q3⟩) | ⟨q1, q2⟩
  · have := Nat.le_of_ble_eq_true q; omega
  · refine ⟨q2, ?_⟩
    rcases killL_get S (chainB bB st.obs) L with h | ⟨h1, h2⟩
    · exact h
    rw [h1, q1]
    unfold chainB
    dsimp only
    rw [killArr_get, q3]
  · refine ⟨q2, ?_⟩
    rcases killL_get S (chainB bB st.obs) L with h | ⟨h1, h2⟩
    · exact h
    · rw [q1] at h2; cases h2

/-! ### what an evaluation in the order of the text comes to -/
def CStep (Γ : Ctx) (k : Nat) (bB : Bool) (wrc : Nat → Bool) (obs0 : List Ob) (o : Oper) (s s' : St) : Prop :=
  o.guard = none ∧ ((∃ t kd, isAlloc o = some t ∧ kindOf Γ t = some kd ∧ s' = s.put o.dst .dead) ∨ (isAlloc o = none ∧ ∃ tv obs', noS tv = true ∧
    ((isStill Γ o = true ∧ (evalOp0 Γ (fun _ => false) k o s.ev obs0).To (tv, obs') ∧ s' = s.put o.dst tv) ∨
      ((bB && isBuild Γ o) = true ∧ (∃ L obs1 e l, tv = .val (.slice e) l ∧ (evalOp0 Γ (fun _ => false) k o s.ev obs0).To (.arr L, obs1) ∧ getOb obs1 L = .arr e l) ∧ s' = s.put o.dst tv) ∨
      ((isStill Γ o = false ∧ (bB && isBuild Γ o) = false) ∧ (evalOp Γ wrc k o s.ev s.obs).To (tv, obs') ∧ (bB = true → boxesBelow obs'.length obs' = true) ∧ s' = (s.with obs').put o.dst tv))))
theorem put_obs {st : St} {d : Option Nat} {tv : TV} : (st.put d tv).obs = st.obs := by cases d <;> rfl
theorem drawC_run {R : Type} {k : Nat} {bB : Bool} {wrc : Nat → Bool} {obs0 : List Ob} {K : St → Option R} {r : R} : ∀ {l : List Oper} {st : St}, execDrawC Γ k bB wrc obs0 l K st = some r → ∃ f : Nat → St, f 0 = st ∧ K (f l.length) = some r ∧ ∀ (i : Nat) (o : Oper), l[i]? = some o → CStep Γ k bB wrc obs0 o (f i) (f (i + 1))
  | [], st, h => ⟨fun _ => st, rfl, h, fun i o hi => by cases hi⟩
  | o :: l, st, h => by
    have glue : ∀ {s1 : St}, CStep Γ k bB wrc obs0 o st s1 → (∃ f : Nat → St, f 0 = s1 ∧ K (f l.length) = some r ∧ ∀ (i : Nat) (o : Oper), l[i]? = some o → CStep Γ k bB wrc obs0 o (f i) (f (i + 1))) →
        ∃ f : Nat → St, f 0 = st ∧ K (f (o :: l).length) = some r ∧ ∀ (i : Nat) (q : Oper), (o :: l)[i]? = some q → CStep Γ k bB wrc obs0 q (f i) (f (i + 1)) := by
      rintro s1 hs ⟨f, f0, f1, f2⟩
      refine ⟨fun i => match i with
        | 0 => st
        | i + 1 => f i, rfl, f1, fun i q hi => ?_⟩
      cases i with
      | zero => cases hi; rw [← f0] at hs; exact hs
      | succ i => exact f2 i q (by simpa using hi)
    rw [execDrawC] at h
    split at h
    · rename_i hg
      split at h
      · rename_i t ht
        split at h
        · rename_i kd hk
          exact glue ⟨hg, .inl ⟨t, kd, ht, hk, rfl⟩⟩ (drawC_run h)
        · cases h
      rename_i hal
      split at h
      · rename_i hst
        rw [Res.runS_eq] at h
        obtain ⟨⟨tv, obs'⟩, ht, hr⟩ := Res.run_some h
        dsimp only at hr
        split at hr
        · rename_i hno
          exact glue ⟨hg, .inr ⟨hal, tv, obs', hno, .inl ⟨hst, ht, rfl⟩⟩⟩ (drawC_run hr)
        · cases hr
      · rename_i hst
        split at h
        · rename_i hbl
          rw [Res.runS_eq] at h
          obtain ⟨⟨tv, obs'⟩, ht, hr⟩ := Res.run_some h
          dsimp only at hr
          split at hr
          · rename_i L
            split at hr
            · rename_i e l hL hc
              exact glue ⟨hg, .inr ⟨hal, .val (.slice e) l, obs', rfl, .inr (.inl ⟨hbl, ⟨L, obs', e, l, rfl, ht, hL⟩, rfl⟩)⟩⟩ (drawC_run hr)
            · cases hr
          · cases hr
        rename_i hbl
        rw [Res.runS_eq] at h
        obtain ⟨⟨tv, obs'⟩, ht, hr⟩ := Res.run_some h
        dsimp only at hr
        split at hr
        · rename_i hno
          rw [Bool.and_eq_true] at hno
          exact glue ⟨hg, .inr ⟨hal, tv, obs', hno.1, .inr (.inr ⟨⟨hst, hbl⟩, ht, fun hb => (by rw [hb] at hno; simpa using hno.2), rfl⟩)⟩⟩ (drawC_run hr)
        · cases hr
    · cases h

variable {k : Nat} {bB : Bool} {wrc : Nat → Bool} {obs0 : List Ob} {l : List Oper} {f : Nat → St}
theorem cstep_same {o : Oper} {s s' : St} (h : CStep Γ k bB wrc obs0 o s s') : s'.n = s.n ∧ s'.lk = s.lk ∧ s'.op = s.op ∧ (calm Γ bB o = true → s'.obs = s.obs) ∧ ∀ t, o.dst ≠ some t → s'.get t = s.get t := by
  obtain ⟨_, h | ⟨hal, tv, obs', _, h⟩⟩ := h
  · obtain ⟨t, kd, h1, _, rfl⟩ := h
    refine ⟨by cases o.dst <;> rfl, by cases o.dst <;> rfl, by cases o.dst <;> rfl, fun _ => by cases o.dst <;> rfl, fun t ht => put_other ht⟩
  rcases h with h | h | h
  · obtain ⟨h1, _, rfl⟩ := h
    refine ⟨by cases o.dst <;> rfl, by cases o.dst <;> rfl, by cases o.dst <;> rfl, fun _ => by cases o.dst <;> rfl, fun t ht => put_other ht⟩
  · obtain ⟨h1, _, rfl⟩ := h
    refine ⟨by cases o.dst <;> rfl, by cases o.dst <;> rfl, by cases o.dst <;> rfl, fun _ => by cases o.dst <;> rfl, fun t ht => put_other ht⟩
  · obtain ⟨⟨h1, h0⟩, _, _, rfl⟩ := h
    refine ⟨by cases o.dst <;> rfl, by cases o.dst <;> rfl, by cases o.dst <;> rfl, fun q => (by unfold calm at q; rw [hal] at q; rw [h1, h0] at q; cases q), fun t ht => put_other ht⟩
theorem run_same (hf : ∀ (i : Nat) (o : Oper), l[i]? = some o → CStep Γ k bB wrc obs0 o (f i) (f (i + 1))) : ∀ i, i ≤ l.length → (f i).n = (f 0).n ∧ (f i).lk = (f 0).lk ∧ (f i).op = (f 0).op
  | 0, _ => ⟨rfl, rfl, rfl⟩
  | i + 1, hi => by
    obtain ⟨a1, a2, a3⟩ := run_same hf i (by omega)
    obtain ⟨b1, b2, b3, _, _⟩ := cstep_same (hf i l[i] (by simp [show i < l.length by omega]))
    exact ⟨b1.trans a1, b2.trans a2, b3.trans a3⟩
/-- what is not written in between stays -/
theorem run_get (hf : ∀ (i : Nat) (o : Oper), l[i]? = some o → CStep Γ k bB wrc obs0 o (f i) (f (i + 1))) (t : Nat) (i : Nat) : ∀ (d : Nat), i + d ≤ l.length → (∀ (j : Nat) (q : Oper), i ≤ j → j < i + d → l[j]? = some q → q.dst ≠ some t) → (f (i + d)).get t = (f i).get t
  | 0, _, _ => rfl
  | d + 1, hd, hq => by
    have ih := run_get hf t i d (by omega) (fun j q h1 h2 => hq j q h1 (by omega))
    have hl : i + d < l.length := by omega
    obtain ⟨_, _, _, _, b⟩ := cstep_same (hf (i + d) l[i + d] (by simp [hl]))
    rw [← ih]
    exact b t (hq (i + d) l[i + d] (by omega) (by omega) (by simp [hl]))
theorem run_obs (hf : ∀ (i : Nat) (o : Oper), l[i]? = some o → CStep Γ k bB wrc obs0 o (f i) (f (i + 1))) (i : Nat) : ∀ (d : Nat), i + d ≤ l.length → (∀ (j : Nat) (q : Oper), i ≤ j → j < i + d → l[j]? = some q → calm Γ bB q = true) → (f (i + d)).obs = (f i).obs
  | 0, _, _ => rfl
  | d + 1, hd, hq => by
    have ih := run_obs hf i d (by omega) (fun j q h1 h2 => hq j q h1 (by omega))
    have hl : i + d < l.length := by omega
    obtain ⟨_, _, _, b, _⟩ := cstep_same (hf (i + d) l[i + d] (by simp [hl]))
    rw [← ih]
    exact b (hq (i + d) l[i + d] (by omega) (by omega) (by simp [hl]))

theorem chainsOK_get : ∀ {l : List Oper} {i0 : Nat} {prev : Option Nat}, chainsOK Γ bB prev i0 l = true → ∀ (i : Nat) (o : Oper), l[i]? = some o → calm Γ bB o = false →
    (∀ (j : Nat) (q : Oper), j < i → l[j]? = some q → calm Γ bB q = false → ∃ (j' : Nat) (q' : Oper), j ≤ j' ∧ j' < i ∧ l[j']? = some q' ∧ calm Γ bB q' = false ∧ binder o (i0 + j') = true) ∧
    (∀ p, prev = some p → (∃ (j' : Nat) (q' : Oper), j' < i ∧ l[j']? = some q' ∧ calm Γ bB q' = false) ∨ binder o p = true)
  | [], i0, prev, _, i, o, hi, _ => by cases hi
  | x :: r, i0, prev, h, i, o, hi, ho => by
    simp only [chainsOK] at h
    cases i with
    | zero =>
      cases hi
      rw [ho] at h
      dsimp only at h
      rw [Bool.and_eq_true] at h
      refine ⟨fun j q hj => by omega, fun p hp => .inr ?_⟩
      rw [hp] at h
      exact h.1
    | succ i =>
      have hi : r[i]? = some o := by simpa using hi
      cases hx : calm Γ bB x with
      | true =>
        rw [hx] at h
        obtain ⟨g1, g2⟩ := chainsOK_get h i o hi ho
        refine ⟨fun j q hj hq hqs => ?_, fun p hp => ?_⟩
        · cases j with
          | zero => cases hq; rw [hx] at hqs; cases hqs
          | succ j =>
            obtain ⟨j', q', a1, a2, a3, a4, a5⟩ := g1 j q (by omega) (by simpa using hq) hqs
            exact ⟨j' + 1, q', by omega, by omega, by simpa using a3, a4, by rw [show i0 + (j' + 1) = i0 + 1 + j' by omega]; exact a5⟩
        · rcases g2 p hp with ⟨j', q', a1, a2, a3⟩ | g
          · exact .inl ⟨j' + 1, q', by omega, by simpa using a2, a3⟩
          · exact .inr g
      | false =>
        rw [hx] at h
        dsimp only at h
        rw [Bool.and_eq_true] at h
        obtain ⟨g1, g2⟩ := chainsOK_get h.2 i o hi ho
        refine ⟨fun j q hj hq hqs => ?_, fun p hp => .inl ⟨0, x, by omega, rfl, hx⟩⟩
        have first : ∃ (j' : Nat) (q' : Oper), 0 ≤ j' ∧ j' < i + 1 ∧ (x :: r)[j']? = some q' ∧ calm Γ bB q' = false ∧ binder o (i0 + j') = true := by
          rcases g2 i0 rfl with ⟨j', q', a1, a2, a3⟩ | g
          · obtain ⟨j2, q2, b1, b2, b3, b4, b5⟩ := g1 j' q' a1 a2 a3
            exact ⟨j2 + 1, q2, by omega, by omega, by simpa using b3, b4, by rw [show i0 + (j2 + 1) = i0 + 1 + j2 by omega]; exact b5⟩
          · exact ⟨0, x, Nat.le_refl _, by omega, rfl, hx, g⟩
        cases j with
        | zero => exact first
        | succ j =>
          obtain ⟨j', q', a1, a2, a3, a4, a5⟩ := g1 j q (by omega) (by simpa using hq) hqs
          exact ⟨j' + 1, q', by omega, by omega, by simpa using a3, a4, by rw [show i0 + (j' + 1) = i0 + 1 + j' by omega]; exact a5⟩
/-! ### what holds when some of the operations have been carried out -/
structure AJ (P : Program) (J : Inv) (Γ : Ctx) (B : Base) (βs : List Value) (st : St) (ops : Array Oper) (m : Nat) (a0 : Act) (ws : World) (listed : Array Bool) (βL : List Value) (stL : St) (a : Act) (w : World) (F : Nat → Prop) : Prop where
  len : βL.length = stL.obs.length
  obs : ∀ L, L < βL.length → ObRep w F βL (bv βL L) (getOb stL.obs L)
  tmps : ∀ s, TVRep P J w F (fun b => b < w.heap.size ∧ ¬ Own βL stL.obs b) βL (stL.get s) (a.tmps.getD s undef)
  fin : ∀ b, F b → (B.F0 b ∨ B.n0 ≤ b ∨ B.G b) ∧ b < w.heap.size ∧ ¬ Own βL stL.obs b
  big : ∀ b, Fz B βs st.obs ws b → F b
  own : ∀ b, Own βL stL.obs b → (Own βs st.obs b ∨ ws.heap.size ≤ b) ∧ b < w.heap.size
  inj : ∀ L L' b, L < βL.length → L' < βL.length → (getOb stL.obs L).live = true → (getOb stL.obs L').live = true → bOf (bv βL L) = some b → bOf (bv βL L') = some b → L = L'
  size : a.tmps.size = st.n
  defers : a.defers = a0.defers
  keep : ∀ s, (∀ (i : Nat) (o : Oper), i < m → ops[i]? = some o → listed.getD i true = true → o.dst ≠ some s) → a.tmps.getD s undef = a0.tmps.getD s undef
  heap : ∀ b, b < ws.heap.size → ¬ Own βs st.obs b → w.heap[b]? = ws.heap[b]?
  grow : ws.heap.size ≤ w.heap.size
  os : w.os = ws.os
  tape : w.tape = ws.tape
  output : w.output = ws.output
  blen : βs.length ≤ βL.length
  bext : ∀ L, L < βs.length → bv βL L = bv βs L
  low : ∀ L, L < βs.length → st.wr L = false → getOb stL.obs L = getOb st.obs L
  made : ∀ (i : Nat) (o : Oper), i < m → ops[i]? = some o → listed.getD i true = true → Made Γ B βL stL.obs st.n a w F o ∧ ∀ d b, (isAlloc o).isSome = true → o.dst = some d → a.tmps.getD d undef = .pointer (some ⟨b, 0, none⟩) → ws.heap.size ≤ b
  apart : ∀ (i j : Nat) (oi oj : Oper), i < m → j < m → i ≠ j → ops[i]? = some oi → ops[j]? = some oj → listed.getD i true = true → listed.getD j true = true → Apart a oi oj

/-- where an operation stands in the meantime -/
def Mid (w : World) (βL : List Value) (obs : List Ob) (F : Nat → Prop) : Base := ⟨w, fun b => Own βL obs b, F⟩
theorem AJ.mid {ops : Array Oper} {m : Nat} {a0 : Act} {ws : World} {listed : Array Bool} {βL : List Value} {stL : St} {F : Nat → Prop} (h : AJ P J Γ B βs st ops m a0 ws listed βL stL a w F) (hgz : J.gz ≤ ws.heap.size) (hI : J.I ws) (hgo : ∀ b, b < J.gz → ¬ Own βs st.obs b) :
    (Mid w βL stL.obs F).Ok J ∧ Rep' P J (Mid w βL stL.obs F) βL stL.obs w ∧ J.I w ∧ ∀ s, TR P J (Mid w βL stL.obs F) βL stL.obs w (stL.get s) (a.tmps.getD s undef) := by
  have hgz' : ∀ b, b < J.gz → ¬ Own βL stL.obs b := fun b hb ho => by
    rcases (h.own b ho).1 with q | q
    · exact hgo b hb q
    · omega
  have hI' : J.I w := J.lasts ws w (fun b hb => h.heap b (Nat.lt_of_lt_of_le hb hgz) (hgo b hb)) hI
  have hfz : ∀ b, F b → Fz (Mid w βL stL.obs F) βL stL.obs w b ∧ w.heap[b]? = w.heap[b]? := fun b hb => ⟨.inl hb, rfl⟩
  refine ⟨⟨fun b hb => (h.fin b hb).2, hI', Nat.le_trans hgz h.grow, hgz'⟩, ⟨Nat.le_refl _, fun b hb => (h.fin b hb).2, fun b hb => ⟨.inr hb, (h.own b hb).2⟩, h.inj, ⟨h.len, fun L hL => ObRep.mono hfz (Nat.le_refl _) (fun _ _ => rfl) (fun _ _ _ => rfl) (h.obs L hL)⟩⟩, hI', fun s => ?_⟩
  exact TVRep.mono (fun _ _ => rfl) (Nat.le_refl _) hfz (Nat.le_refl _) (fun _ _ => rfl) (h.tmps s)

theorem AJ.carry {ops : Array Oper} {m : Nat} {a0 : Act} {ws : World} {listed : Array Bool} {βL β1 : List Value} {stL : St} {F F1 : Nat → Prop} {obs1 : List Ob} {tv : TV} {v : Value} {w1 : World} {i : Nat} {o : Oper}
    (h1 : AJ P J Γ B βs st ops m a0 ws listed βL stL a w F) (hn1 : stL.n = st.n) (hle0 : B.n0 ≤ ws.heap.size) (hsz : listed.size = ops.size) (him : i < m) (hoi : ops[i]? = some o) (hunl : listed.getD i true = false) (hdn' : ∀ d, o.dst = some d → d < st.n)
    (huniq : ∀ d, o.dst = some d → ∀ (j : Nat) (q : Oper), j < m → ops[j]? = some q → i ≠ j → q.dst ≠ some d)
    (c0 : β1.length = obs1.length) (cb : βL.length ≤ β1.length) (cx : ∀ L, L < βL.length → bv β1 L = bv βL L)
    (c1 : ∀ L, L < β1.length → ObRep w1 F1 β1 (bv β1 L) (getOb obs1 L)) (c2 : TVRep P J w1 F1 (fun b => b < w1.heap.size ∧ ¬ Own β1 obs1 b) β1 tv v)
    (c3 : ∀ b, F b → F1 b) (c4 : ∀ b, F1 b → F b ∨ ((w.heap.size ≤ b ∨ Own βL stL.obs b) ∧ b < w1.heap.size ∧ ¬ Own β1 obs1 b)) (c5 : w.heap.size ≤ w1.heap.size)
    (c6 : ∀ b, b < w.heap.size → ¬ Own βL stL.obs b → w1.heap[b]? = w.heap[b]?) (c7 : w1.os = w.os) (c8 : w1.tape = w.tape) (c9 : w1.output = w.output)
    (co : ∀ b, Own β1 obs1 b → (Own βL stL.obs b ∨ w.heap.size ≤ b) ∧ b < w1.heap.size)
    (ci : ∀ L L' b, L < β1.length → L' < β1.length → (getOb obs1 L).live = true → (getOb obs1 L').live = true → bOf (bv β1 L) = some b → bOf (bv β1 L') = some b → L = L')
    (cl : ∀ L, L < βs.length → st.wr L = false → getOb obs1 L = getOb stL.obs L) (hbo : ∀ b, Own βs st.obs b → B.n0 ≤ b ∨ B.G b)
    (c10 : ∀ t, isAlloc o = some t → Made Γ B β1 obs1 st.n (a.put o.dst v) w1 F1 o ∧ ∀ b, v = .pointer (some ⟨b, 0, none⟩) → w.heap.size ≤ b) :
    AJ P J Γ B βs st ops m a0 ws (listed.setIfInBounds i true) β1 ((stL.with obs1).put o.dst tv) (a.put o.dst v) w1 F1 := by
  have hput : ∀ (v : Value) (s : Nat), (a.put o.dst v).tmps.getD s undef = if o.dst = some s then v else a.tmps.getD s undef := fun v s => by
    cases hdd : o.dst with
    | none => rw [if_neg (fun q => by cases q)]; rfl
    | some d =>
      have hda : d < a.tmps.size := by rw [h1.size]; exact hdn' d hdd
      refine (setIf_getD hda).trans ?_
      by_cases e : d = s
      · rw [if_pos e, if_pos (by rw [e])]
      · rw [if_neg e, if_neg (fun q => e (Option.some.inj q))]
  have hsetT : ∀ j, (listed.setIfInBounds i true).getD j true = true ↔ (j = i ∨ listed.getD j true = true) := fun j => by
    simp only [Array.getD_eq_getD_getElem?, Array.getElem?_setIfInBounds]
    by_cases e : i = j
    · subst e
      simp
      split <;> simp
    · rw [if_neg e]
      constructor
      · exact .inr
      · rintro (q | q)
        · exact absurd q.symm e
        · exact q
  have hnot : ∀ b, b < w.heap.size → ¬ Own βL stL.obs b → ¬ Own β1 obs1 b := fun b hb hn ho => by
    rcases (co b ho).1 with q | q
    · exact hn q
    · omega
  have hmade : ∀ (j : Nat) (q : Oper), j < m → ops[j]? = some q → listed.getD j true = true → Made Γ B β1 obs1 st.n (a.put o.dst v) w1 F1 q ∧ ∀ d b, (isAlloc q).isSome = true → q.dst = some d → (a.put o.dst v).tmps.getD d undef = .pointer (some ⟨b, 0, none⟩) → ws.heap.size ≤ b ∧ b < w.heap.size := fun j q hjm hq hjl => by
    obtain ⟨m1, m2⟩ := h1.made j q hjm hq hjl
    have hne : i ≠ j := fun e => by subst e; rw [hunl] at hjl; cases hjl
    have hdj : ∀ d', q.dst = some d' → o.dst ≠ some d' := fun d' hd' e => huniq d' e j q hjm hq hne hd'
    refine ⟨fun t ht => ?_, fun d' b' hal hd' hv => ?_⟩
    · obtain ⟨d', b', k', n1, n2, n3, n4, n5, n6, n7, n8, n9⟩ := m1 t ht
      refine ⟨d', b', k', n1, n2, n3, ?_, ?_, n6, Nat.lt_of_lt_of_le n7 c5, fun q => ?_, hnot b' n7 n9⟩
      · rw [hput, if_neg (hdj d' n1)]; exact n4
      · rw [c6 b' n7 n9]; exact n5
      · rcases c4 b' q with z | ⟨z | z, _⟩
        · exact n8 z
        · omega
        · exact n9 z
    · rw [hput, if_neg (hdj d' hd')] at hv
      refine ⟨m2 d' b' hal hd' hv, ?_⟩
      cases hia : isAlloc q with
      | none => rw [hia] at hal; cases hal
      | some t =>
        obtain ⟨d2, b2, k', n1, n2, n3, n4, n5, n6, n7, n8, n9⟩ := m1 t hia
        obtain rfl : d2 = d' := Option.some.inj (n1.symm.trans hd')
        rw [hv] at n4
        simp only [Value.pointer.injEq, Option.some.injEq, Addr.mk.injEq, and_true] at n4
        rw [n4]; exact n7
  have hnew : ∀ t, isAlloc o = some t → ∀ b, v = .pointer (some ⟨b, 0, none⟩) → w.heap.size ≤ b := fun t ht => (c10 t ht).2
  have hobs : ((stL.with obs1).put o.dst tv).obs = obs1 := by cases o.dst <;> rfl
  have hgetp : ∀ s, ((stL.with obs1).put o.dst tv).get s = if o.dst = some s then tv else stL.get s := fun s => by
    cases hdd : o.dst with
    | none => rw [if_neg (fun q => by cases q)]; rfl
    | some d =>
      rw [get_put]
      by_cases e : d = s
      · rw [if_pos ⟨by show d < stL.n; rw [hn1]; exact hdn' d hdd, e⟩, if_pos (by rw [e])]
      · rw [if_neg (fun q => e q.2), if_neg (fun q => e (Option.some.inj q))]; rfl
  refine ⟨?_, ?_, fun s => ?_, fun b hb => ?_, fun b hb => c3 b (h1.big b hb), ?_, ?_, ?_, ?_, fun s hs => ?_, fun b hb ho => ?_, Nat.le_trans h1.grow c5, c7.trans h1.os, c8.trans h1.tape, c9.trans h1.output, Nat.le_trans h1.blen cb, fun L hL => (cx L (Nat.lt_of_lt_of_le hL h1.blen)).trans (h1.bext L hL), fun L hL hwL => ?_, fun j q hjm hq hjl => ?_, fun j j' q q' hjm hjm' hjj hq hq' hjl hjl' => ?_⟩
  · rw [hobs]; exact c0
  · rw [hobs]; exact c1
  · rw [hobs, hgetp, hput v s]
    by_cases e : o.dst = some s
    · rw [if_pos e, if_pos e]; exact c2
    · rw [if_neg e, if_neg e]
      refine TVRep.monoS (S := fun b => b < w.heap.size ∧ ¬ Own βL stL.obs b) (fun b hb => ⟨Nat.lt_of_lt_of_le hb.1 c5, hnot b hb.1 hb.2⟩) ?_
      exact TVRep.mono (fun b hb => c6 b hb.1 hb.2) c5 (fun b hb => ⟨c3 b hb, c6 b (h1.fin b hb).2.1 (h1.fin b hb).2.2⟩) cb cx (h1.tmps s)
  · rw [hobs]
    rcases c4 b hb with q | ⟨q1, q2, q3⟩
    · obtain ⟨p1, p2, p3⟩ := h1.fin b q
      exact ⟨p1, Nat.lt_of_lt_of_le p2 c5, hnot b p2 p3⟩
    · refine ⟨?_, q2, q3⟩
      rcases q1 with q1 | q1
      · exact .inr (.inl (Nat.le_trans (Nat.le_trans hle0 h1.grow) q1))
      · rcases (h1.own b q1).1 with z | z
        · exact .inr (hbo b z)
        · exact .inr (.inl (Nat.le_trans hle0 z))
  · rw [hobs]
    intro b hb
    obtain ⟨q1, q2⟩ := co b hb
    refine ⟨?_, q2⟩
    rcases q1 with q1 | q1
    · exact (h1.own b q1).1
    · exact .inr (Nat.le_trans h1.grow q1)
  · rw [hobs]; exact ci
  · cases o.dst with
    | none => exact h1.size
    | some d => show (a.tmps.setIfInBounds d v).size = st.n; rw [Array.size_setIfInBounds]; exact h1.size
  · cases o.dst <;> exact h1.defers
  · rw [hput, if_neg (fun e => hs i o him hoi ((hsetT i).2 (.inl rfl)) e)]
    exact h1.keep s fun j q hjm hq hjl => hs j q hjm hq ((hsetT j).2 (.inr hjl))
  · have hn : ¬ Own βL stL.obs b := fun q => by
      rcases (h1.own b q).1 with z | z
      · exact ho z
      · omega
    rw [c6 b (Nat.lt_of_lt_of_le hb h1.grow) hn]; exact h1.heap b hb ho
  · rw [hobs, cl L hL hwL]; exact h1.low L hL hwL
  · rw [hobs]
    rcases (hsetT j).1 hjl with e | hjl'
    · subst e
      obtain rfl : o = q := Option.some.inj (hoi.symm.trans hq)
      refine ⟨fun t ht => (c10 t ht).1 t ht, fun d' b' hal hd' hv => ?_⟩
      rw [hput, if_pos hd'] at hv
      cases hia : isAlloc o with
      | none => rw [hia] at hal; cases hal
      | some t => exact Nat.le_trans h1.grow (hnew t hia b' hv)
    · obtain ⟨p1, p2⟩ := hmade j q hjm hq hjl'
      exact ⟨p1, fun d' b' x1 x2 x3 => (p2 d' b' x1 x2 x3).1⟩
  · intro t1 t2 d1 d2 b x1 x2 x3 x4 x5 x6
    have hcase : ∀ (j : Nat) (q : Oper), j < m → ops[j]? = some q → (listed.setIfInBounds i true).getD j true = true → ∀ t d', isAlloc q = some t → q.dst = some d' → (a.put o.dst v).tmps.getD d' undef = .pointer (some ⟨b, 0, none⟩) → (j = i ∧ w.heap.size ≤ b) ∨ (listed.getD j true = true ∧ b < w.heap.size ∧ a.tmps.getD d' undef = .pointer (some ⟨b, 0, none⟩)) := fun j q hjm hq hjl t d' y1 y2 y3 => by
      rcases (hsetT j).1 hjl with e | hjl'
      · subst e
        obtain rfl : o = q := Option.some.inj (hoi.symm.trans hq)
        rw [hput, if_pos y2] at y3
        exact .inl ⟨rfl, hnew t y1 b y3⟩
      · have hne : i ≠ j := fun e => by subst e; rw [hunl] at hjl'; cases hjl'
        have hdne : o.dst ≠ some d' := fun e => huniq d' e j q hjm hq hne y2
        refine .inr ⟨hjl', ((hmade j q hjm hq hjl').2 d' b (by rw [y1]; rfl) y2 y3).2, ?_⟩
        rw [hput, if_neg hdne] at y3
        exact y3
    rcases hcase j q hjm hq hjl t1 d1 x1 x3 x5 with ⟨e1, e2⟩ | ⟨e1, e2, e3⟩ <;> rcases hcase j' q' hjm' hq' hjl' t2 d2 x2 x4 x6 with ⟨g1, g2⟩ | ⟨g1, g2, g3⟩
    · exact hjj (e1.trans g1.symm)
    · omega
    · omega
    · exact h1.apart j j' q q' hjm hjm' hjj hq hq' e1 g1 t1 t2 d1 d2 b x1 x2 x3 x4 e3 g3

variable {R : Type}
open Classical in
/-- ████ whatever the order, with calls in order ████ -/
theorem execDrawC_ok (hΓ : CtxOK P J Γ) (hB : B.Ok J) {k : Nat} {bB : Bool} {wrc : Nat → Bool} {obs0 : List Ob} {K : St → Option R} {r : R} {Q : Exit → Act → World → Prop} {ops : Array Oper} {st0 : St} {id : Nat}
    (hK : ∀ βs st' a' w', Rep P J B C βs st' a' w' → SameLocks st0 st' → K st' = some r → Q .normal a' w')
    {m : Nat} (hk : ∀ o ∈ ops.toList, ∀ d, o.dst = some d → ¬ C.kept d) (h : Rep P J B C βs st a w) (hl : SameLocks st0 st) (hoks : drawsOK true ops st.n m = true) (hch : chainsOK Γ bB none 0 (ops.toList.take m) = true) (hlkn : st.lk ≤ st.obs.length)
    (hge : Ge obs0 st.obs) (hwr0 : ∀ L, L < st.obs.length → wrc L = true → st.wr L = true ∧ getOb obs0 L = .dead) (hbb : bB = true → boxesBelow st.obs.length st.obs = true)
    (he : execDrawC Γ k bB wrc obs0 (ops.toList.take m) (fun st1 => bindA Γ (ops.toList.take m) (fun st2 => execOps Γ k ops (ops.toList.drop m) K st2) st1) st = some r) :
    (Code.region id ops true).wp P Q a w := by
  obtain ⟨f, f0, hKN, hstep⟩ := drawC_run he
  obtain ⟨N, hN⟩ : ∃ N, N = (ops.toList.take m).length := ⟨_, rfl⟩
  obtain ⟨stN, hstN⟩ : ∃ s, s = f N := ⟨_, rfl⟩
  rw [← hN, ← hstN] at hKN
  have hbelow : ∀ p, p ≤ N → bB = true → boxesBelow (f p).obs.length (f p).obs = true := by
    intro p
    induction p with
    | zero => intro _ hb; rw [f0]; exact hbb hb
    | succ p ihp =>
      intro hp hb
      have hpl : p < (ops.toList.take m).length := by omega
      obtain ⟨_, z | ⟨hal, tv, obs', _, z⟩⟩ := hstep p _ (List.getElem?_eq_getElem hpl)
      · obtain ⟨_, _, _, _, e⟩ := z
        rw [e, put_obs]; exact ihp (by omega) hb
      rcases z with ⟨_, _, e⟩ | ⟨_, _, e⟩ | ⟨_, _, z, e⟩
      · rw [e, put_obs]; exact ihp (by omega) hb
      · rw [e, put_obs]; exact ihp (by omega) hb
      · rw [e, put_obs]; exact z hb
  have z1 : ∀ t, (∀ o ∈ ops.toList.take m, o.dst ≠ some t) → stN.get t = st.get t := fun t ht => by
    have := run_get hstep t 0 N (by omega) (fun j q _ _ hq => ht q (List.mem_of_getElem? hq))
    rw [Nat.zero_add, f0] at this
    rw [hstN]; exact this
  obtain ⟨z3, z4, z5⟩ : stN.n = st.n ∧ stN.lk = st.lk ∧ stN.op = st.op := by
    have := run_same hstep N (by omega)
    rw [f0] at this
    rw [hstN]; exact this
  simp only [drawsOK, Bool.and_eq_true] at hoks
  obtain ⟨⟨hok, hlowB⟩, hrest⟩ := hoks
  have hops : ∀ i (o : Oper), i < m → ops[i]? = some o → (ops.toList.take m)[i]? = some o := fun i o him hi => by rw [List.getElem?_take, if_pos him, Array.getElem?_toList]; exact hi
  have hopsR : ∀ i (o : Oper), (ops.toList.take m)[i]? = some o → i < m ∧ ops[i]? = some o := fun i o hi => by
    rw [List.getElem?_take] at hi
    split at hi
    · rename_i q
      rw [Array.getElem?_toList] at hi
      exact ⟨q, hi⟩
    · cases hi
  have hok' : ∀ i (o : Oper), i < m → ops[i]? = some o → operOK true ops (ops.toList.take m) st.n i o = true := fun i o him hi => by
    have := drawOK_get hok i o (hops i o him hi)
    rwa [Nat.zero_add] at this
  have hlow : ∀ i (o : Oper), ops[i]? = some o → ∀ e ∈ o.after.toList, Region.binds .any e = true → e.on < i := fun i o hi e he hb => by
    have := lowOK_get hlowB i o (by rw [Array.getElem?_toList]; exact hi) e he hb
    rwa [Nat.zero_add] at this
  have hmid : ∀ (o : Oper), ops[m]? = some o → chainOK o 0 (ops.toList.take m) = true ∧ tailOK (m + 1) (ops.toList.drop (m + 1)) = true := fun o ho => by
    have hm : m < ops.size := by
      rcases Nat.lt_or_ge m ops.size with q | q
      · exact q
      · rw [Array.getElem?_eq_none q] at ho; cases ho
    have hd : ops.toList.drop m = o :: ops.toList.drop (m + 1) := by
      rw [List.drop_eq_getElem_cons (by simpa using hm)]
      rw [Array.getElem?_eq_getElem hm] at ho
      cases ho
      simp
    rw [hd] at hrest
    simpa only [Bool.and_eq_true] using hrest
  have htail : ∀ i (o : Oper), m < i → ops[i]? = some o → binder o (i - 1) = true := fun i o hmi hi => by
    have his : i < ops.size := by
      rcases Nat.lt_or_ge i ops.size with q | q
      · exact q
      · rw [Array.getElem?_eq_none q] at hi; cases hi
    have hm : m < ops.size := by omega
    have := tailOK_get (hmid ops[m] (by simp [hm])).2 (i - (m + 1)) o (by
      rw [List.getElem?_drop, Array.getElem?_toList]
      have : m + 1 + (i - (m + 1)) = i := by omega
      rw [this]; exact hi)
    have e : m + 1 + (i - (m + 1)) - 1 = i - 1 := by omega
    rwa [e] at this
  have hobs : ∀ {listed : Array Bool} {obs : List Ob}, (∃ p, p ≤ N ∧ obs = (f p).obs ∧ (st.obs.length ≤ obs.length ∧ ∀ L, L < st.obs.length → wrc L = false → getOb obs L = getOb st.obs L) ∧ ∀ (j : Nat) (q : Oper), (ops.toList.take m)[j]? = some q → calm Γ bB q = false → (listed.getD j true = true ↔ j < p)) →
      (∀ (j : Nat) (q : Oper), (ops.toList.take m)[j]? = some q → listed.getD j true = true) → stN.obs = obs := fun {listed obs} hp hall => by
    obtain ⟨p, p1, p2, _, p4⟩ := hp
    have := run_obs hstep p (N - p) (by omega) (fun j q h1 h2 hq => by
      cases hs : calm Γ bB q with
      | true => rfl
      | false =>
        have := (p4 j q hq hs).1 (hall j q hq)
        omega)
    rw [hstN, p2, ← this, show p + (N - p) = N by omega]
  refine wp_region_any hΓ.mixed ?_
  obtain ⟨ws, hws⟩ : ∃ ws : World, ws = { w with drawn := w.drawn + 1 } := ⟨_, rfl⟩
  have hsz0 : ws.heap.size = w.heap.size := by rw [hws]
  have hle0 : B.n0 ≤ ws.heap.size := by rw [hsz0]; exact h.ext.size
  have hownlt : ∀ b, Own βs st.obs b → (B.n0 ≤ b ∨ B.G b) ∧ b < ws.heap.size := fun b hb => by rw [hsz0]; exact h.own b hb
  have hfzlt : ∀ b, Fz B βs st.obs ws b → b < ws.heap.size ∧ ¬ Own βs st.obs b := fun b hb => by
    rcases hb with q | ⟨_, q2, q3⟩
    · have := hB.f0 b q
      refine ⟨Nat.lt_of_lt_of_le this.1 hle0, fun ho => ?_⟩
      rcases (hownlt b ho).1 with z | z
      · omega
      · exact this.2 z
    · exact ⟨q2, q3⟩
  have hIw : J.I ws := by
    have := h.inv hB
    rw [hws]; exact J.lasts w _ (fun _ _ => rfl) this
  have hgz : J.gz ≤ ws.heap.size := Nat.le_trans hB.gz hle0
  have hgo : ∀ b, b < J.gz → ¬ Own βs st.obs b := fun b hb ho => by
    rcases (hownlt b ho).1 with z | z
    · have := hB.gz; omega
    · exact hB.gzG b hb z
  -- the front is done: what was made gets its names
  have hfin : ∀ (listed : Array Bool) (βL : List Value) (stL : St) (a' : Act) (w' : World) (F : Nat → Prop), AJ P J Γ B βs st ops m a ws listed βL stL a' w' F → SameLocks st0 stL → stL.n = st.n →
      (∃ p, p ≤ N ∧ stL.obs = (f p).obs ∧ (st.obs.length ≤ stL.obs.length ∧ ∀ L, L < st.obs.length → wrc L = false → getOb stL.obs L = getOb st.obs L) ∧ ∀ (j : Nat) (q : Oper), (ops.toList.take m)[j]? = some q → calm Γ bB q = false → (listed.getD j true = true ↔ j < p)) →
      (∀ t, stL.get t = if ∃ (i : Nat) (o : Oper), i < m ∧ ops[i]? = some o ∧ listed.getD i true = true ∧ o.dst = some t then stN.get t else st.get t) →
      (∀ i, i < m → i < ops.size → listed.getD i true = true) → wpList P ops Q (ops.toList.drop m) a' w' := by
    intro listed βL stL a' w' F hA hlL hnL hp hg hall
    have hlist : ∀ i (o : Oper), i < m → ops[i]? = some o → listed.getD i true = true := fun i o him hoi => hall i him (by
      rcases Nat.lt_or_ge i ops.size with q | q
      · exact q
      · rw [Array.getElem?_eq_none q] at hoi; cases hoi)
    have z2 : stN.obs = stL.obs := hobs hp fun j q hq => hlist j q (hopsR j q hq).1 (hopsR j q hq).2
    have hget : ∀ t, stL.get t = stN.get t := fun t => by
      rw [hg t]
      split
      · rfl
      · rename_i q
        refine (z1 t fun o ho hd => ?_).symm
        obtain ⟨i, hi, rfl⟩ := List.getElem_of_mem ho
        have := hopsR i _ (List.getElem?_eq_getElem hi)
        exact q ⟨i, _, this.1, this.2, hlist i _ this.1 this.2, hd⟩
    have hG : RepG P J B C βL stN a' w' F := by
      refine ⟨⟨hA.os.trans (by rw [hws]; exact h.ext.os), hA.tape.trans (by rw [hws]; exact h.ext.tape), hA.output.trans (by rw [hws]; exact h.ext.output), Nat.le_trans hle0 hA.grow, fun b hb hGb => ?_⟩, ?_, ?_, ?_, ?_, fun s => ?_, ?_, hA.defers.trans h.defers, fun s hs => ?_, fun b hb => ?_, fun b hb => ?_, ?_, ?_, ?_, ?_⟩
      · have hb' : b < ws.heap.size := Nat.lt_of_lt_of_le hb hle0
        rw [hA.heap b hb' fun ho => by
          rcases (hownlt b ho).1 with z | z
          · omega
          · exact hGb z, hws]
        exact h.ext.block b hb hGb
      · rw [z2]
        intro b hb
        obtain ⟨q1, q2⟩ := hA.own b hb
        refine ⟨?_, q2⟩
        rcases q1 with q1 | q1
        · exact (hownlt b q1).1
        · exact .inl (Nat.le_trans hle0 q1)
      · rw [z2]; exact hA.inj
      · rw [z2]; exact hA.len
      · rw [z2]; exact hA.obs
      · by_cases q : ∃ (i : Nat) (o : Oper), i < m ∧ ops[i]? = some o ∧ o.dst = some s
        · obtain ⟨i, o, q1, q2, q3⟩ := q
          have hd0 := hok' i o q1 q2
          simp only [operOK, Bool.and_eq_true] at hd0
          rw [q3] at hd0
          simp only [Bool.and_eq_true] at hd0
          have hiN : i < N := by
            rcases Nat.lt_or_ge i N with z | z
            · exact z
            · have := hops i o q1 q2
              rw [List.getElem?_eq_none (by omega)] at this; cases this
          have hno : noS (stN.get s) = true := by
            have hlate := run_get hstep s (i + 1) (N - (i + 1)) (by omega) (fun j q' h1 _ hq => dstOK_get hd0.1.2 j q' hq (by omega))
            rw [show i + 1 + (N - (i + 1)) = N by omega] at hlate
            rw [hstN, hlate]
            have hn : s < (f i).n := by
              have := (run_same hstep i (by omega)).1
              rw [f0] at this
              rw [this]; simpa [Nat.blt_eq] using hd0.1.1
            obtain ⟨_, z⟩ := hstep i o (hops i o q1 q2)
            rcases z with ⟨t, kd, _, _, e⟩ | ⟨_, tv, obs', hnos, ⟨_, _, e⟩ | ⟨_, _, e⟩ | ⟨_, _, _, e⟩⟩
            · rw [e, q3, get_put, if_pos ⟨hn, rfl⟩]; rfl
            · rw [e, q3, get_put, if_pos ⟨hn, rfl⟩]; exact hnos
            · rw [e, q3, get_put, if_pos ⟨hn, rfl⟩]; exact hnos
            · rw [e, q3, get_put, if_pos ⟨hn, rfl⟩]; exact hnos
          have := hA.tmps s
          rw [hget] at this
          exact TVRep.free hno this
        · have e1 : stN.get s = st.get s := by
            rw [← hget s, hg s, if_neg]
            rintro ⟨i, o, q1, q2, _, q3⟩
            exact q ⟨i, o, q1, q2, q3⟩
          have e2 := hA.keep s fun i o q1 q2 _ q3 => q ⟨i, o, q1, q2, q3⟩
          rw [e1, e2]
          refine TVRep.mono (w := w) (F := Fz B βs st.obs w) (fun b hb => ?_) (by rw [← hsz0]; exact hA.grow) (fun b hb => ?_) hA.blen hA.bext (h.tmps s)
          · have hb' : b < ws.heap.size := Nat.lt_of_lt_of_le hb.1 hle0
            rw [hA.heap b hb' fun ho => by
              rcases (hownlt b ho).1 with z | z
              · have := hb.1; omega
              · exact hb.2 z, hws]
          · have hb2 : Fz B βs st.obs ws b := by rw [hws]; exact hb
            refine ⟨hA.big b hb2, ?_⟩
            rw [hA.heap b (hfzlt b hb2).1 (hfzlt b hb2).2, hws]
      · rw [z3]; exact hA.size
      · rw [hA.keep s fun i o q1 q2 _ q3 => hk o (by
          obtain ⟨hlt, e⟩ := Array.getElem?_eq_some_iff.1 q2
          rw [← e]; simp) s q3 hs]
        exact h.keep s hs
      · rw [z2]
        obtain ⟨q1, q2, q3⟩ := hA.fin b hb
        rcases q1 with q1 | q1
        · exact .inl q1
        · exact .inr ⟨q1, q2, q3⟩
      · obtain ⟨q1, q2⟩ := h.mono b hb
        have hb2 : Fz B βs st.obs ws b := by rw [hws]; exact q1
        refine ⟨hA.big b hb2, ?_⟩
        rw [hA.heap b (hfzlt b hb2).1 (hfzlt b hb2).2, hws]
        exact q2
      · refine Nat.le_trans h.msize ?_
        rw [← hsz0]; exact hA.grow
      · exact Nat.le_trans h.blen hA.blen
      · exact fun L hL => (hA.bext L (Nat.lt_of_lt_of_le hL h.blen)).trans (h.bext L hL)
      · have hw : stN.wr = st.wr := by unfold St.wr; rw [z4, z5]
        rw [z2, hw]
        exact fun L hL hwr => (hA.low L (Nat.lt_of_lt_of_le hL h.blen) hwr).trans (h.lock L hL hwr)
    have hp' : (ops.toList.take m).Pairwise (Apart a') := by
      rw [List.pairwise_iff_getElem]
      intro i j hi hj hij
      have q1 := hopsR i _ (List.getElem?_eq_getElem hi)
      have q2 := hopsR j _ (List.getElem?_eq_getElem hj)
      exact hA.apart i j _ _ q1.1 q2.1 (by omega) q1.2 q2.2 (hlist i _ q1.1 q1.2) (hlist j _ q2.1 q2.2)
    have hm : ∀ o ∈ ops.toList.take m, Made Γ B βL stN.obs stN.n a' w' F o := fun o ho => by
      obtain ⟨i, hi, rfl⟩ := List.getElem_of_mem ho
      have q1 := hopsR i _ (List.getElem?_eq_getElem hi)
      rw [z2, z3]
      exact (hA.made i _ q1.1 q1.2 (hlist i _ q1.1 q1.2)).1
    obtain ⟨βs', st', r1, r2, r3, r4, r5⟩ := bind_all _ hG hm hp' hKN
    have hst : SameLocks st0 st' := ⟨r2.trans (z4.trans hl.1), r3.trans (z5.trans hl.2.1), r4.trans (z3.trans hl.2.2)⟩
    exact execOps_ok hΓ hB (st0 := st0) hK (ops.toList.drop m) βs' st' a' w' (fun o ho => hk o (List.mem_of_mem_drop ho)) r1.rep hst r5
  -- what holds when some have been carried out
  have key : ∀ (fuel : Nat) (listed : Array Bool) (βL : List Value) (stL : St) (a' : Act) (w : World) (F : Nat → Prop), AJ P J Γ B βs st ops m a ws listed βL stL a' w F → SameLocks st0 stL → (∃ p, p ≤ N ∧ stL.obs = (f p).obs ∧ (st.obs.length ≤ stL.obs.length ∧ ∀ L, L < st.obs.length → wrc L = false → getOb stL.obs L = getOb st.obs L) ∧ ∀ (j : Nat) (q : Oper), (ops.toList.take m)[j]? = some q → calm Γ bB q = false → (listed.getD j true = true ↔ j < p)) → stL.n = st.n →
      (∀ t, stL.get t = if ∃ (i : Nat) (o : Oper), i < m ∧ ops[i]? = some o ∧ listed.getD i true = true ∧ o.dst = some t then stN.get t else st.get t) →
      listed.size = ops.size → (∀ j, m ≤ j → j < ops.size → listed.getD j true = false) →
      (∀ (j : Nat) (o : Oper), ops[j]? = some o → listed.getD j true = true → ∀ e ∈ o.after.toList, Region.binds .any e = true → listed.getD e.on true = true) →
      ((List.range ops.size).filter fun i => !listed.getD i true).length ≤ fuel → wpAny P .any ops Q fuel listed a' w := by
    intro fuel
    induction fuel with
    | zero => 
      intro listed βL stL a' w F h1 hl1 ho1 hn1 hg hsz hback hdn hfu
      have hall : ∀ i, i < ops.size → listed.getD i true = true := fun i hi => by
        have h0 : (List.range ops.size).filter (fun i => !listed.getD i true) = [] := List.eq_nil_of_length_eq_zero (Nat.le_zero.1 hfu)
        have := List.filter_eq_nil_iff.1 h0 i (List.mem_range.2 hi)
        simpa using this
      have hms : ops.size ≤ m := by
        rcases Nat.lt_or_ge m ops.size with q | q
        · have := hback m (Nat.le_refl _) q
          rw [hall m q] at this; cases this
        · exact q
      exact tail_sched hlow htail 0 m listed a' w (Nat.le_refl _) hsz (fun j _ hjs => hall j hjs) (fun j hj hjs => by omega) (by omega) (hfin listed βL stL a' w F h1 hl1 hn1 ho1 hg fun i _ hi => hall i hi)
    | succ fuel ih =>
      intro listed βL stL a' w F h1 hl1 ho1 hn1 hg hsz hback hdn hfu
      by_cases hall : ∀ i, i < m → i < ops.size → listed.getD i true = true
      · -- the front is done
        refine tail_sched hlow htail (fuel + 1) m listed a' w (Nat.le_refl _) hsz hall hback ?_ (hfin listed βL stL a' w F h1 hl1 hn1 ho1 hg hall)
        have hcnt : ((List.range ops.size).filter fun i => !listed.getD i true).length = ops.size - m := by
          have : (List.range ops.size).filter (fun i => !listed.getD i true) = (List.range ops.size).filter (fun i => decide (m ≤ i)) := List.filter_congr fun i hi => by
            have his := List.mem_range.1 hi
            by_cases q : m ≤ i
            · rw [hback i q his]; simp [q]
            · rw [hall i (by omega) his]; simp; omega
          rw [this]
          have hcount : ∀ n : Nat, ((List.range n).filter (fun i => decide (m ≤ i))).length = n - m := by
            intro n
            induction n with
            | zero => simp
            | succ n ihn =>
              rw [List.range_succ, List.filter_append, List.length_append, ihn]
              by_cases q : m ≤ n
              · simp [q]; omega
              · simp [q]; omega
          exact hcount _
        omega
      refine ⟨fun hr => ?_, fun i hi => ?_⟩
      · -- nothing is ready: all are listed
        exfalso
        refine hall ?_
        intro i
        induction i using Nat.strongRecOn with
        | _ i ihi =>
          intro him hi
          cases hb : listed.getD i true with
          | true => rfl
          | false =>
            exfalso
            have hoi : ops[i]? = some ops[i] := by simp [hi]
            have : i ∈ Region.ready .any ops listed := by
              unfold Region.ready
              refine List.mem_filter.2 ⟨List.mem_range.2 hi, ?_⟩
              rw [hb, hoi]
              simp only [Bool.not_false, Bool.true_and, Option.map_some, Option.getD_some]
              rw [← Array.all_toList]
              refine List.all_eq_true.2 fun e hm => ?_
              cases hbd : Region.binds .any e with
              | false => simp
              | true =>
                simp only [Bool.not_true, Bool.false_or]
                have h3 : e.on < i := hlow i _ hoi e hm hbd
                have h4 := ihi e.on h3 (Nat.lt_trans h3 him) (Nat.lt_trans h3 hi)
                have h5 : e.on < listed.size := by omega
                simp only [Array.getD_eq_getD_getElem?, Array.getElem?_eq_getElem h5, Option.getD_some] at h4 ⊢
                exact h4
            rw [hr] at this
            cases this
      · -- one that is ready
        unfold Region.ready at hi
        rw [List.mem_filter] at hi
        obtain ⟨hi0, hi1⟩ := hi
        have hin : i < ops.size := List.mem_range.1 hi0
        rw [Bool.and_eq_true] at hi1
        have hunl : listed.getD i true = false := by simpa using hi1.1
        have hoi : ops[i]? = some ops[i] := by simp [hin]
        have haft := hi1.2
        rw [hoi] at haft
        simp only [Option.map_some, Option.getD_some] at haft
        rw [← Array.all_toList] at haft
        obtain ⟨o, hod⟩ : ∃ o, o = ops[i] := ⟨_, rfl⟩
        rw [← hod] at hoi haft
        have hafter : ∀ e ∈ o.after.toList, Region.binds .any e = true → listed.getD e.on true = true := fun e em eb => by
          have := List.all_eq_true.1 haft e em
          rw [eb] at this
          simp only [Bool.not_true, Bool.false_or] at this
          have h5 : e.on < listed.size := by
            have := hlow i o hoi e em eb
            omega
          simp only [Array.getD_eq_getD_getElem?, Array.getElem?_eq_getElem h5, Option.getD_some] at this ⊢
          exact this
        have him : i < m := by
          rcases Nat.lt_or_ge i m with q | q
          · exact q
          · exfalso
            rcases Nat.lt_or_ge m i with q' | q'
            · obtain ⟨e, em, eb, eo⟩ := binder_mem (htail i o q' hoi)
              have := hafter e em eb
              rw [eo, hback (i - 1) (by omega) (by omega)] at this
              cases this
            · have : i = m := by omega
              subst this
              have hch := (hmid o hoi).1
              refine hall ?_
              have down : ∀ (d j : Nat), i - j ≤ d → j < i → j < ops.size → listed.getD j true = true := by
                intro d
                induction d with
                | zero => intro j h1 h2; omega
                | succ d ihd =>
                  intro j h1 h2 h3
                  have hjl : j < (ops.toList.take i).length := by simp; omega
                  rcases chainOK_get hch j hjl with ⟨j', q, q1, q2, q3⟩ | q1
                  · rw [Nat.zero_add] at q3
                    have hq := hopsR j' q q2
                    have hq' : j' < ops.size := by
                      rcases Nat.lt_or_ge j' ops.size with z | z
                      · exact z
                      · rw [Array.getElem?_eq_none z] at hq; cases hq.2
                    have := ihd j' (by omega) hq.1 hq'
                    obtain ⟨e, em, eb, eo⟩ := binder_mem q3
                    have := hdn j' q hq.2 this e em eb
                    rwa [eo] at this
                  · rw [Nat.zero_add] at q1
                    obtain ⟨e, em, eb, eo⟩ := binder_mem q1
                    have := hafter e em eb
                    rwa [eo] at this
              exact fun j hj hjs => down (i - j) j (Nat.le_refl _) hj hjs
        have hop := hok' i o him hoi
        simp only [operOK, Bool.and_eq_true] at hop
        obtain ⟨hdst, hlook⟩ := hop
        have hdn' : ∀ d, o.dst = some d → d < st.n := fun d hd => by
          rw [hd] at hdst
          simp only [Bool.and_eq_true] at hdst
          simpa [Nat.blt_eq] using hdst.1
        have huniq : ∀ d, o.dst = some d → ∀ (j : Nat) (q : Oper), (ops.toList.take m)[j]? = some q → i ≠ j → q.dst ≠ some d := fun d hd j q hq hne => by
          rw [hd] at hdst
          simp only [Bool.and_eq_true] at hdst
          exact dstOK_get hdst.2 j q hq (by rw [Nat.zero_add]; exact hne)
        have hiN : i < N := by
          rcases Nat.lt_or_ge i N with q | q
          · exact q
          · have := hops i o him hoi
            rw [List.getElem?_eq_none (by omega)] at this; cases this
        obtain ⟨hguard, f4⟩ := hstep i o (hops i o him hoi)
        have hn : ∀ d, o.dst = some d → d < (f i).n := fun d hd => by
          have := (run_same hstep i (by omega)).1
          rw [f0] at this
          rw [this]; exact hdn' d hd
        have hNd : ∀ d, o.dst = some d → ∀ tv, (f (i + 1)).get d = tv → stN.get d = tv := fun d hd tv e => by
          have hlate := run_get hstep d (i + 1) (N - (i + 1)) (by omega) (fun j q h1 _ hq => huniq d hd j q hq (by omega))
          rw [show i + 1 + (N - (i + 1)) = N by omega] at hlate
          rw [hstN, hlate, e]
        obtain ⟨sti, hsti⟩ : ∃ s, s = f i := ⟨_, rfl⟩
        rw [← hsti] at f4
        -- what it looks at
        have hsee : ∀ t ∈ o.looksAt ops, stL.get t = sti.get t := fun t ht => by
          have hs := List.all_eq_true.1 hlook t ht
          have hs' : ∀ (j : Nat) (q : Oper), (ops.toList.take m)[j]? = some q → q.dst = some t → j < i ∧ listed.getD j true = true := fun j q hq hqd => by
            have := slotOK_get hs j q hq hqd
            rw [Nat.zero_add] at this
            obtain ⟨e, em, eb, eo⟩ := binder_mem this.2
            have := List.all_eq_true.1 haft e em
            rw [eb, eo] at this
            simp only [Bool.not_true, Bool.false_or] at this
            refine ⟨‹j < i ∧ _›.1, ?_⟩
            have hjs : j < listed.size := by have := ‹j < i ∧ _›.1; omega
            simp only [Array.getD_eq_getD_getElem?, Array.getElem?_eq_getElem hjs, Option.getD_some] at this ⊢
            exact this
          rw [hg t]
          split
          · rename_i q
            have := run_get hstep t i (N - i) (by omega) (fun j' q' hj' _ hq' hqd' => by
              have := (hs' j' q' hq' hqd').1
              omega)
            rw [show i + (N - i) = N by omega] at this
            rw [hstN, this, hsti]
          · rename_i q
            have := run_get hstep t 0 i (by omega) (fun j' q' _ _ hq' hqd' => q ⟨j', q', (hopsR j' q' hq').1, (hopsR j' q' hq').2, (hs' j' q' hq' hqd').2, hqd'⟩)
            rw [Nat.zero_add, f0] at this
            rw [hsti, this]
        have hoper : ∀ x ∈ o.op.operands.toList, stL.ev x = sti.ev x := fun x hx => by
          cases x with
          | tmp t =>
            refine hsee t ?_
            unfold Oper.looksAt
            refine List.mem_append_left _ (List.mem_filterMap.2 ⟨_, hx, rfl⟩)
          | _ => rfl
        -- behind it
        have next : ∀ {v : Value} {w1 : World} {F1 : Nat → Prop} {β1 : List Value} {obsN : List Ob} {tv : TV}, (∀ d, o.dst = some d → stN.get d = tv) → AJ P J Γ B βs st ops m a ws (listed.setIfInBounds i true) β1 ((stL.with obsN).put o.dst tv) (a'.put o.dst v) w1 F1 → (∃ p, p ≤ N ∧ obsN = (f p).obs ∧ (st.obs.length ≤ obsN.length ∧ ∀ L, L < st.obs.length → wrc L = false → getOb obsN L = getOb st.obs L) ∧ ∀ (j : Nat) (q : Oper), (ops.toList.take m)[j]? = some q → calm Γ bB q = false → ((listed.getD j true = true ∨ j = i) ↔ j < p)) → wpAny P .any ops Q fuel (listed.setIfInBounds i true) (a'.put o.dst v) w1 := fun {v w1 F1 β1 obsN tv} hNd hrep hpN => by
          have hsetF : ∀ j, i ≠ j → (listed.setIfInBounds i true).getD j true = listed.getD j true := fun j hne => by
            simp only [Array.getD_eq_getD_getElem?, Array.getElem?_setIfInBounds, if_neg hne]
          refine ih _ β1 _ _ w1 F1 hrep (SameLocks.put (st := stL.with obsN) hl1) (by
            obtain ⟨p, p1, p2, p3, p4⟩ := hpN
            refine ⟨p, p1, by cases o.dst <;> exact p2, by cases o.dst <;> exact p3, fun j q hq hs => ?_⟩
            rw [← p4 j q hq hs]
            by_cases ej : j = i
            · subst ej
              simp [Array.getD_eq_getD_getElem?, show j < listed.size by omega]
            · rw [hsetF j (Ne.symm ej)]
              exact ⟨.inl, fun z => z.resolve_right ej⟩) (by cases o.dst <;> exact hn1) (fun t => ?_) (by simpa using hsz) (fun j hj hjs => by rw [hsetF j (by omega)]; exact hback j hj hjs) (fun j q hq hjl e em eb => ?_) ?_
          rotate_left
          · have hjl' : listed.getD e.on true = true := by
              by_cases ej : i = j
              · subst ej
                rw [hoi] at hq
                cases hq
                exact hafter e em eb
              · rw [hsetF j ej] at hjl
                exact hdn j q hq hjl e em eb
            by_cases ee : i = e.on
            · rw [← ee] at hjl' ⊢
              simp [Array.getD_eq_getD_getElem?, show i < listed.size by omega]
            · rw [hsetF _ ee]; exact hjl'
          rotate_left
          · have hset : ∀ j, (listed.setIfInBounds i true).getD j true = true ↔ (j = i ∨ listed.getD j true = true) := fun j => by
              simp only [Array.getD_eq_getD_getElem?, Array.getElem?_setIfInBounds]
              by_cases e : i = j
              · subst e
                simp
                split <;> simp
              · rw [if_neg e]
                constructor
                · exact .inr
                · rintro (q | q)
                  · exact absurd q.symm e
                  · exact q
            by_cases e : o.dst = some t
            · rw [e, get_put, if_pos ⟨by show t < stL.n; rw [hn1]; exact hdn' t e, rfl⟩, if_pos ⟨i, o, him, hoi, (hset i).2 (.inl rfl), e⟩, hNd t e]
            · have hgw : ((stL.with obsN).put o.dst tv).get t = stL.get t := by
                cases hdd : o.dst with
                | none => rfl
                | some d => rw [get_put, if_neg (fun q => e (by rw [hdd, q.2]))]; rfl
              rw [hgw, hg t]
              have : (∃ (j : Nat) (q : Oper), j < m ∧ ops[j]? = some q ∧ (listed.setIfInBounds i true).getD j true = true ∧ q.dst = some t) ↔ ∃ (j : Nat) (q : Oper), j < m ∧ ops[j]? = some q ∧ listed.getD j true = true ∧ q.dst = some t := by
                constructor
                · rintro ⟨j, q, q0, q1, q2, q3⟩
                  rcases (hset j).1 q2 with rfl | q2
                  · rw [hoi] at q1
                    cases q1
                    exact absurd q3 e
                  · exact ⟨j, q, q0, q1, q2, q3⟩
                · rintro ⟨j, q, q0, q1, q2, q3⟩
                  exact ⟨j, q, q0, q1, (hset j).2 (.inr q2), q3⟩
              simp only [this]
          · -- one less is not listed
            have hlt : ((List.range ops.size).filter fun j => !(listed.setIfInBounds i true).getD j true).length < ((List.range ops.size).filter fun j => !listed.getD j true).length := by
              refine filter_lt (i := i) hi0 (by simp [hunl]) ?_ fun j hj hb => ?_
              · simp [Array.getD_eq_getD_getElem?, show i < listed.size by omega]
              · simp only [Array.getD_eq_getD_getElem?, Array.getElem?_setIfInBounds] at hb ⊢
                by_cases e : i = j
                · subst e
                  have : i < listed.size := by omega
                  simp [this] at hb
                · rw [if_neg e] at hb; exact hb
            omega
        unfold wpOp
        rw [hoi]
        simp only
        rw [if_pos (show Region.wanted o (yielded ops a'.tmps) = true by simp [Region.wanted, hguard])]
        refine .inl ?_
        obtain ⟨p, p1, p2, p3, p4⟩ := ho1
        have hlenL : st.obs.length ≤ stL.obs.length := p3.1
        have hgeL : Ge obs0 stL.obs := fun L hd => by
          have hst := hge L hd
          rcases Nat.lt_or_ge L st.obs.length with q | q
          · cases hw : wrc L with
            | true => exact absurd (hwr0 L q hw).2 hd
            | false => rw [p3.2 L q hw]; exact hst
          · exfalso
            apply hd
            rw [← hst]
            unfold getOb
            rw [List.getD_eq_getElem?_getD, List.getElem?_eq_none q]; rfl
        have huniq' : ∀ d, o.dst = some d → ∀ (j : Nat) (q : Oper), j < m → ops[j]? = some q → i ≠ j → q.dst ≠ some d := fun d hd j q hjm hq hne => huniq d hd j q (hops j q hjm hq) hne
        have hbo : ∀ b, Own βs st.obs b → B.n0 ≤ b ∨ B.G b := fun b hb => (hownlt b hb).1
        obtain ⟨mid1, mid2, mid3, mid4⟩ := h1.mid hgz hIw hgo
        have stay : calm Γ bB o = true → ∃ p, p ≤ N ∧ stL.obs = (f p).obs ∧ (st.obs.length ≤ stL.obs.length ∧ ∀ L, L < st.obs.length → wrc L = false → getOb stL.obs L = getOb st.obs L) ∧ ∀ (j : Nat) (q : Oper), (ops.toList.take m)[j]? = some q → calm Γ bB q = false → ((listed.getD j true = true ∨ j = i) ↔ j < p) := fun hcalm => by
          refine ⟨p, p1, p2, p3, fun j q hq hqs => ?_⟩
          rw [← p4 j q hq hqs]
          refine ⟨fun z => z.resolve_right fun e => ?_, .inl⟩
          subst e
          rw [hops j o him hoi] at hq
          cases hq
          rw [hcalm] at hqs; cases hqs
        rcases f4 with ⟨t, kd, hal, hkd, hf⟩ | ⟨hal, tv, obsT, hnos, f4⟩
        · -- a variable is made
          have hcalm : calm Γ bB o = true := by unfold calm; rw [hal]
          have hop : o.op = .alloc t := by
            unfold isAlloc at hal
            split at hal
            · rename_i t' e
              cases hal
              exact e
            · cases hal
          obtain ⟨inf, i1, i2, z, i3, i4⟩ := (hΓ.kind hkd).info
          have hz := valCells_cells i4 (Kd.zero_one kd)
          have hzz : z.cells = kd.zeroCells.toArray := by rw [← hz]
          have hrun1 : (execOp a'.eval o).run P w = .ok (.value (.pointer (some ⟨w.heap.size, 0, none⟩))) (w.alloc (.cells kd.zeroCells.toArray t)) := by
            unfold execOp
            simp [hop, Instr.alloc, zeroValue, typeInfo, i1, i3, newVar, newRow, hzz]
          obtain ⟨a1, a2, a3⟩ := alloc_facts w (.cells kd.zeroCells.toArray t)
          have hFs : ¬ F w.heap.size := fun q => by have := (h1.fin _ q).2.1; omega
          have hOs : ¬ Own βL stL.obs w.heap.size := fun q => by have := (h1.own _ q).2; omega
          obtain ⟨d, hd⟩ : ∃ d, o.dst = some d := by
            cases hdd : o.dst with
            | none =>
              rw [hdd] at hdst
              unfold isStore at hdst
              rw [hop] at hdst
              simp at hdst
            | some d => exact ⟨d, rfl⟩
          have hda : d < a'.tmps.size := by rw [h1.size]; exact hdn' d hd
          have hput : ∀ (v : Value) (s : Nat), (a'.put o.dst v).tmps.getD s undef = if d = s then v else a'.tmps.getD s undef := fun v s => by
            rw [hd]
            exact setIf_getD hda
          have hnx := h1.carry (tv := .dead) (v := .pointer (some ⟨w.heap.size, 0, none⟩)) (w1 := w.alloc (.cells kd.zeroCells.toArray t)) (F1 := F) (β1 := βL) (obs1 := stL.obs) hn1 hle0 hsz him hoi hunl hdn' huniq' h1.len (Nat.le_refl _) (fun _ _ => rfl)
            (fun L hL => ObRep.mono (fun b hb => ⟨hb, a3 b (h1.fin b hb).2.1⟩) (Nat.le_refl _) (fun _ _ => rfl) (fun b hlive hbo => a3 b (h1.own b ⟨L, hL, hlive, hbo⟩).2) (h1.obs L hL)) trivial (fun _ q => q) (fun _ q => .inl q) (by rw [a1]; omega) (fun b hb _ => a3 b hb) rfl rfl rfl
            (fun b hb => ⟨.inl hb, by rw [a1]; have := (h1.own b hb).2; omega⟩) h1.inj (fun _ _ _ => rfl) hbo
            (fun t' ht' => by
              obtain rfl : t = t' := Option.some.inj (hal.symm.trans ht')
              refine ⟨fun t2 ht2 => ?_, fun b hb => ?_⟩
              · obtain rfl : t = t2 := Option.some.inj (hal.symm.trans ht2)
                exact ⟨d, w.heap.size, kd, hd, hdn' d hd, hkd, by rw [hput, if_pos rfl], a2, Nat.le_trans hle0 h1.grow, by rw [a1]; omega, hFs, hOs⟩
              · simp only [Value.pointer.injEq, Option.some.injEq, Addr.mk.injEq, and_true] at hb
                omega)
          unfold Oper.wp
          rw [hrun1]
          exact next (fun d' hd' => hNd d' hd' .dead (by rw [hf, hd', get_put, if_pos ⟨by rw [hsti]; exact hn d' hd', rfl⟩])) hnx (stay hcalm)
        have hnoal : ∀ (t : Nat) (p : Prop), isAlloc o = some t → p := fun t p q => by rw [hal] at q; cases q
        -- what an operation comes to
        have fin0 : ∀ {wr : Nat → Bool} {v : Value} {w' : World} {obs' : List Ob} {tv : TV}, (∀ d, o.dst = some d → stN.get d = tv) → (∀ L, L < st.obs.length → st.wr L = false → wr L = false) → Behind P J (Mid w βL stL.obs F) βL stL.obs wr w tv obs' v w' →
            (∃ p, p ≤ N ∧ obs' = (f p).obs ∧ (st.obs.length ≤ obs'.length ∧ ∀ L, L < st.obs.length → wrc L = false → getOb obs' L = getOb st.obs L) ∧ ∀ (j : Nat) (q : Oper), (ops.toList.take m)[j]? = some q → calm Γ bB q = false → ((listed.getD j true = true ∨ j = i) ↔ j < p)) → wpAny P .any ops Q fuel (listed.setIfInBounds i true) (a'.put o.dst v) w' := by
          rintro wr v w' obs' tv hNt hwr ⟨βs', hs, ht⟩ hpn
          have hfzF : ∀ b, F b → b < w.heap.size ∧ ¬ Own βL stL.obs b := fun b hb => (h1.fin b hb).2
          refine next hNt (h1.carry (F1 := Fz (Mid w βL stL.obs F) βs' obs' w') hn1 hle0 hsz him hoi hunl hdn' huniq' hs.len hs.blen hs.bext hs.rep ?_ (fun b hb => .inl hb) (fun b hb => ?_) hs.size (fun b hb hno => hs.block b hb hno) hs.os hs.tape hs.output hs.own hs.inj (fun L hL hwL => ?_) hbo (fun t ht' => hnoal t _ ht')) hpn
          · refine TVRep.monoS (S := (Mid w βL stL.obs F).S) (fun b hb => ⟨Nat.lt_of_lt_of_le hb.1 hs.size, fun ho => ?_⟩) ht
            rcases (hs.own b ho).1 with q | q
            · exact hb.2 q
            · have : b < w.heap.size := hb.1
              omega
          · rcases hb with hb | ⟨q1, q2, q3⟩
            · exact .inl hb
            · exact .inr ⟨q1, q2, q3⟩
          · have hLL : L < βL.length := Nat.lt_of_lt_of_le hL h1.blen
            exact hs.lock L hLL (hwr L (by rw [← h.len]; exact hL) hwL)
        rcases f4 with ⟨hs, g2, hf⟩ | ⟨hs, ⟨Lb, obsb, eb, lb, rfl, g2, g3⟩, hf⟩ | ⟨⟨hs, hs0⟩, g2, gb, hf⟩
        · have hcalm : calm Γ bB o = true := by unfold calm; rw [hal]; dsimp only; rw [hs]; rfl
          have hev : (evalOp Γ (fun _ => false) k o stL.ev stL.obs).To (tv, stL.obs) := by
            rw [evalOp_congr hoper]
            exact still_ok hs hgeL g2
          have hevr : ∀ x, TR P J (Mid w βL stL.obs F) βL stL.obs w (stL.ev x) (a'.eval x) := fun x => by
            cases x with
            | tmp t => exact mid4 t
            | const v => exact constTV_rep v
            | func g => exact ⟨fun L hL => (by cases hL), rfl⟩
            | global g => trivial
          have hop := evalOp_ok hΓ mid1 mid2 mid3 hevr hev
          have fin : ∀ {v : Value} {w' : World}, Behind P J (Mid w βL stL.obs F) βL stL.obs (fun _ => false) w tv stL.obs v w' → wpAny P .any ops Q fuel (listed.setIfInBounds i true) (a'.put o.dst v) w' := fun hb =>
            fin0 (fun d hd => hNd d hd tv (by rw [hf, hd, get_put, if_pos ⟨by rw [hsti]; exact hn d hd, rfl⟩])) (fun _ _ _ => rfl) hb (stay hcalm)
          unfold Oper.wp
          rcases hop with ⟨v, w', hr, hb⟩ | ⟨w', hr, hb⟩ | ⟨f, args, hr, hc⟩
          · rw [hr]; exact fin hb
          · rw [hr]; exact fin hb
          · rw [hr]
            exact hc.mono fun e w' ⟨v, q1, q2⟩ => by subst q1; exact fin q2
        · have hcalm : calm Γ bB o = true := by unfold calm; rw [hal]; dsimp only; rw [hs]; simp
          have hev : (evalOp Γ (fun _ => false) k o stL.ev stL.obs).To (.val (.slice eb) lb, stL.obs) := by
            rw [evalOp_congr hoper]
            exact build_ok (by rw [Bool.and_eq_true] at hs; exact hs.2) hgeL g2 g3 (by rw [p2]; exact hbelow p p1 (by rw [Bool.and_eq_true] at hs; exact hs.1))
          have hevr : ∀ x, TR P J (Mid w βL stL.obs F) βL stL.obs w (stL.ev x) (a'.eval x) := fun x => by
            cases x with
            | tmp t => exact mid4 t
            | const v => exact constTV_rep v
            | func g => exact ⟨fun L hL => (by cases hL), rfl⟩
            | global g => trivial
          have hop := evalOp_ok hΓ mid1 mid2 mid3 hevr hev
          have fin : ∀ {v : Value} {w' : World}, Behind P J (Mid w βL stL.obs F) βL stL.obs (fun _ => false) w (.val (.slice eb) lb) stL.obs v w' → wpAny P .any ops Q fuel (listed.setIfInBounds i true) (a'.put o.dst v) w' := fun hb =>
            fin0 (fun d hd => hNd d hd (.val (.slice eb) lb) (by rw [hf, hd, get_put, if_pos ⟨by rw [hsti]; exact hn d hd, rfl⟩])) (fun _ _ _ => rfl) hb (stay hcalm)
          unfold Oper.wp
          rcases hop with ⟨v, w', hr, hb⟩ | ⟨w', hr, hb⟩ | ⟨f, args, hr, hc⟩
          · rw [hr]; exact fin hb
          · rw [hr]; exact fin hb
          · rw [hr]
            exact hc.mono fun e w' ⟨v, q1, q2⟩ => by subst q1; exact fin q2
        · -- all that came before it in the chain is listed
          have hcalm : calm Γ bB o = false := by unfold calm; rw [hal]; dsimp only; rw [hs, hs0]; rfl
          have hchain : ∀ (i' : Nat) (o' : Oper), i' < m → ops[i']? = some o' → calm Γ bB o' = false → (∀ e ∈ o'.after.toList, Region.binds .any e = true → listed.getD e.on true = true) → ∀ (j : Nat) (q : Oper), j < i' → (ops.toList.take m)[j]? = some q → calm Γ bB q = false → listed.getD j true = true := by
            intro i'
            induction i' using Nat.strongRecOn with
            | _ i' ihc =>
              intro o' hm' ho' hs' haf j q hj hq hqs
              obtain ⟨j', q', a1, a2, a3, a4, a5⟩ := (chainsOK_get hch i' o' (hops i' o' hm' ho') hs').1 j q hj hq hqs
              rw [Nat.zero_add] at a5
              obtain ⟨e, em, eb, eo⟩ := binder_mem a5
              have hlj := haf e em eb
              rw [eo] at hlj
              rcases Nat.lt_or_ge j j' with z | z
              · have hq' := hopsR j' q' a3
                exact ihc j' a2 q' hq'.1 hq'.2 a4 (fun e2 em2 eb2 => hdn j' q' hq'.2 hlj e2 em2 eb2) j q z hq hqs
              · have : j = j' := by omega
                rw [this]; exact hlj
          have hbefore := hchain i o him hoi hcalm hafter
          have hpi : p ≤ i := by
            rcases Nat.lt_or_ge i p with z | z
            · have := (p4 i o (hops i o him hoi) hcalm).2 z
              rw [hunl] at this; cases this
            · exact z
          have hobsI : stL.obs = sti.obs := by
            have := run_obs hstep p (i - p) (by omega) (fun j q h1' h2' hq => by
              cases hqs : calm Γ bB q with
              | true => rfl
              | false =>
                have := (p4 j q hq hqs).1 (hbefore j q (by omega) hq hqs)
                omega)
            rw [p2, hsti, ← this, show p + (i - p) = i by omega]
          have hev : (evalOp Γ wrc k o stL.ev stL.obs).To (tv, obsT) := by
            rw [evalOp_congr hoper, hobsI]; exact g2
          have hevr : ∀ x, TR P J (Mid w βL stL.obs F) βL stL.obs w (stL.ev x) (a'.eval x) := fun x => by
            cases x with
            | tmp t => exact mid4 t
            | const v => exact constTV_rep v
            | func g => exact ⟨fun L hL => (by cases hL), rfl⟩
            | global g => trivial
          have hop := evalOp_ok hΓ mid1 mid2 mid3 hevr hev
          have hwrn : ∀ L, L < st.obs.length → st.wr L = false → wrc L = false := fun L hL hwL => by
            cases hw : wrc L with
            | false => rfl
            | true => rw [(hwr0 L hL hw).1] at hwL; cases hwL
          have fin : ∀ {v : Value} {w' : World}, Behind P J (Mid w βL stL.obs F) βL stL.obs wrc w tv obsT v w' → wpAny P .any ops Q fuel (listed.setIfInBounds i true) (a'.put o.dst v) w' := fun {v w'} hbh => by
            refine fin0 (fun d hd => hNd d hd tv (by rw [hf, hd, get_put, if_pos ⟨by rw [hsti]; exact hn d hd, rfl⟩])) hwrn hbh ⟨i + 1, by omega, ?_, ?_, fun j q hq hqs => ?_⟩
            · rw [hf]
              cases o.dst <;> rfl
            · obtain ⟨βs', hs', _⟩ := hbh
              have h2' := hs'.len
              have h3' := hs'.blen
              have h4' := h1.len
              refine ⟨by omega, fun L hL hw => ?_⟩
              rw [hs'.lock L (by rw [h1.len]; omega) hw]
              exact p3.2 L hL hw
            · constructor
              · rintro (z | z)
                · have := (p4 j q hq hqs).1 z; omega
                · omega
              · intro z
                rcases Nat.lt_or_ge j i with z' | z'
                · exact .inl (hbefore j q z' hq hqs)
                · exact .inr (by omega)
          unfold Oper.wp
          rcases hop with ⟨v, w', hr, hb⟩ | ⟨w', hr, hb⟩ | ⟨f, args, hr, hc⟩
          · rw [hr]; exact fin hb
          · rw [hr]; exact fin hb
          · rw [hr]
            exact hc.mono fun e w' ⟨v, q1, q2⟩ => by subst q1; exact fin q2
  have h0 : AJ P J Γ B βs st ops m a ws (Array.replicate ops.size false) βs st a ws (Fz B βs st.obs ws) := by
    have hnl : ∀ (i : Nat) (o : Oper), ops[i]? = some o → (Array.replicate ops.size false).getD i true = true → False := fun i o hi hl => by
      have hj : i < ops.size := by
        rcases Nat.lt_or_ge i ops.size with q | q
        · exact q
        · rw [Array.getElem?_eq_none q] at hi; cases hi
      simp [hj] at hl
    have hFF : ∀ b, Fz B βs st.obs w b → Fz B βs st.obs ws b ∧ ws.heap[b]? = w.heap[b]? := fun b hb => by rw [hws]; exact ⟨hb, rfl⟩
    have hwh : ∀ b : Nat, ws.heap[b]? = w.heap[b]? := fun b => by rw [hws]
    refine ⟨h.len, fun L hL => ObRep.mono (w := w) (w' := ws) hFF (Nat.le_refl _) (fun _ _ => rfl) (fun b _ _ => hwh b) (h.obs L hL), fun s => ?_, fun b hb => ?_, fun b hb => hb, fun b hb => ⟨.inl hb, (hownlt b hb).2⟩, h.inj, h.size, rfl, fun s _ => rfl, fun b _ _ => rfl, Nat.le_refl _, rfl, rfl, rfl, Nat.le_refl _, fun _ _ => rfl, fun _ _ _ => rfl, fun i o _ hi hl => (hnl i o hi hl).elim, fun i j oi oj _ _ _ hi _ hl _ => (hnl i oi hi hl).elim⟩
    · have hm : TVRep P J ws (Fz B βs st.obs ws) B.S βs (st.get s) (a.tmps.getD s undef) := TVRep.mono (w := w) (w' := ws) (F := Fz B βs st.obs w) (fun b _ => hwh b) (by rw [hsz0]; exact Nat.le_refl _) hFF (Nat.le_refl _) (fun _ _ => rfl) (h.tmps s)
      refine TVRep.monoS (S := B.S) (fun b hb => ?_) hm
      refine ⟨Nat.lt_of_lt_of_le hb.1 hle0, fun ho => ?_⟩
      rcases (hownlt b ho).1 with z | z
      · have := hb.1; omega
      · exact hb.2 z
    · have h2 := hfzlt b hb
      refine ⟨?_, h2.1, h2.2⟩
      rcases hb with q | ⟨q, _, _⟩
      · exact .inl q
      · exact .inr q
  rw [← hws]
  refine key ops.size (Array.replicate ops.size false) βs st a ws _ h0 hl ⟨0, Nat.zero_le _, by rw [f0], ⟨Nat.le_refl _, fun _ _ _ => rfl⟩, fun j q hq _ => ?_⟩ rfl (fun t => ?_) (by simp) (fun j _ hj => by simp [hj]) (fun j o hj hlj => ?_) ?_
  · have hj : j < ops.size := by
      have := (hopsR j q hq).2
      rcases Nat.lt_or_ge j ops.size with z | z
      · exact z
      · rw [Array.getElem?_eq_none z] at this; cases this
    simp [hj]
  rotate_left
  · exfalso
    have hi : j < ops.size := by
      rcases Nat.lt_or_ge j ops.size with q | q
      · exact q
      · rw [Array.getElem?_eq_none q] at hj; cases hj
    simp [hi] at hlj
  rotate_left
  · rw [if_neg]
    rintro ⟨i, o, _, q1, q2, _⟩
    have hi : i < ops.size := by
      rcases Nat.lt_or_ge i ops.size with q | q
      · exact q
      · rw [Array.getElem?_eq_none q] at q1; cases q1
    simp [hi] at q2
  · exact Nat.le_trans (List.length_filter_le _ _) (by simp)

end Go.Proofs.YtbliiipcjbmbiaaGreatDoor.Ev
