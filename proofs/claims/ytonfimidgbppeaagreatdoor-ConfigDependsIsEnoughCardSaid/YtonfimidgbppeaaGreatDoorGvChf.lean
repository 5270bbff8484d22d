/- strings.ContainsFunc as a function of the evaluator (this session's own; from the shelf's contract). No condition. -/
import Derived.Test.YtonfimidgbppeaaGreatDoorGvCho
import Derived.Test.YtonfimidgbppeaaGreatDoorShelfC
import Derived.Lib.MapLaws
import Derived.Lib.TrimUEq
namespace Go.Proofs.YtonfimidgbppeaaGreatDoor.Ev
open Go Go.Proofs Go.RowKit
set_option maxRecDepth 100000
set_option linter.unusedVariables false
variable {P : Program} {J : Inv}
theorem arg_bool {w : World} {F : Nat → Prop} {v : Value} {b : Bool} (h : RdV w F .bool v b) : v = .bool b := by
  obtain ⟨_, vs, h1, h2⟩ := h
  subst h2
  unfold valCells at h1
  simpa [Kd.isAgg] using h1.symm
def Runes (f : Int → Option Bool) : Prop := ∀ x : Nat, x ≤ 1114111 → ∃ b, f (x : Int) = some b
open Classical in
noncomputable def containsF (s : ByteArray) (f : Int → Option Bool) : Option Bool := if Runes f then some (decide (0 ≤ Lib.idxFunc (fun x => (f (x : Int)).getD false) true s)) else none
theorem fnOK_containsFunc {g : Nat} (henter : ∃ fn, P.funcs[g]? = some fn ∧ fn.body.isSome = true ∧ (fn.name == "runtime.NumGoroutine") = false)
    (h : ∀ (gf : Nat) (lb : Array Value) (eg : ∀ args w, (callFunc gf args).run P w = .ok (.enter gf args) w) (p : Nat → Bool) (s : ByteArray) (w : World), PredGrows P gf lb p w →
      Calls P g #[.string s, .func (.func gf) #[] lb] w fun e w' => e = .returned (.bool (decide (0 ≤ Lib.idxFunc p true s))) ∧ Below w.heap.size w w') :
    FnOK P J g ⟨[.val .str, .fnv (.int .i32) .bool], [.val .bool], fun _ x => containsF x.1 x.2.1⟩ := by
  refine ⟨henter, fun k B vals x y hB hargs hnd hG hy => ?_⟩
  obtain ⟨v1, r1, rfl, a1, v2, r2, rfl, a2, hr⟩ := hargs
  have hr : r2 = [] := hr
  subst hr
  obtain rfl := arg_str a1
  obtain ⟨_, gf, caps, rfl, hen, hcall⟩ := a2
  have hy : containsF x.1 x.2.1 = some y := hy
  unfold containsF at hy
  split at hy
  · rename_i hc
    cases hy
    have hp : PredGrows P gf caps (fun n => (x.2.1 (n : Int)).getD false) B.w0 := by
      intro W n hn hb
      obtain ⟨b, hb'⟩ := hc n hn
      have hI : J.I W := J.lasts B.w0 W (fun q hq => hb.block q (Nat.lt_of_lt_of_le hq hB.gz)) hB.inv
      have := hcall W hI (Nat.le_trans hB.gz hb.size) hb.size (fun q hq => hb.block q hq.1) (fun _ => False) (n : Int) [.int .i32 (n : Int)] b (fun _ q => q.elim) ⟨_, rfl, ⟨rfl, [_], by simp [valCells, Kd.isAgg], rfl⟩⟩ hb'
      refine this.mono fun e w'' ⟨v, e1, e2, e3⟩ => ?_
      obtain rfl := arg_bool e2
      exact ⟨by rw [e1]; show _ = Ending.returned (Value.bool ((x.2.1 (n : Int)).getD false)); rw [hb']; rfl, e3⟩
    refine (h gf caps (fun args w => enter_run hen) _ x.1 B.w0 hp).mono fun e w' ⟨e1, e2⟩ => ?_
    exact ⟨[_], e1, ⟨_, rfl, ⟨rfl, [_], by simp [valCells, Kd.isAgg], rfl⟩⟩, by simp [ownRs], by simp [ownRs], Below.ext e2⟩
  · cases hy
noncomputable def S96 (_ : Nat) (x : PT [.val .str, .fnv (.int .i32) .bool]) : Option (OT [.val .bool]) := containsF x.1 x.2.1
noncomputable def F96 : Fn := ⟨[.val .str, .fnv (.int .i32) .bool], [.val .bool], S96⟩
theorem ok96 : FnOK Tryz.prog JS 96 F96 := fnOK_containsFunc ⟨Tryz.f96, rfl, rfl, by decide⟩ fun gf lb eg p s w hp => Tryz.strings_ContainsFunc_grows gf lb eg p s w hp

/-! ### what it finds -/
theorem decode_low (s : ByteArray) (pos : Nat) (h : (s.data.toList.getD pos 0).toNat < 128) : Utf8.decode s pos = ((s.data.toList.getD pos 0).toNat, 1) := by
  rw [Lib.decode_N, Lib.decodeN_ascii _ _ _ _ _ h]
theorem decode_high (s : ByteArray) (pos : Nat) (h : ¬ (s.data.toList.getD pos 0).toNat < 128) : 128 ≤ (Utf8.decode s pos).1 := by
  rw [Lib.decode_N]
  rcases Lib.decodeN_shape (s.data.toList.length - pos) (s.data.toList.getD pos 0).toNat (s.data.toList.getD (pos + 1) 0).toNat (s.data.toList.getD (pos + 2) 0).toNat (s.data.toList.getD (pos + 3) 0).toNat with q | q | q | q | q
  · exact absurd q.1 h
  · rw [q.2.2.2.2]; exact q.2.2.2.1
  · rw [q.2.2.2.2.2.2]; show 128 ≤ _; omega
  · rw [q.2.2.2.2.2.2.2]; show 128 ≤ _; omega
  · rw [q]; decide
/-- whether a rune lies outside of a range that ends below 128: as its bytes do -/
theorem idxFrom_any (p : Nat → Bool) (hp : ∀ r, 127 < r → p r = true) (s : ByteArray) : ∀ (f pos : Nat), s.size ≤ pos + f → decide (0 ≤ Lib.idxFuncFrom p true s f pos) = (s.data.toList.drop pos).any fun b => p b.toNat
  | 0, pos, h => by
    have hl : s.data.toList.length = s.size := by simp
    rw [List.drop_eq_nil_of_le (by omega)]
    simp [Lib.idxFuncFrom]
  | f + 1, pos, h => by
    have hl : s.data.toList.length = s.size := by simp
    unfold Lib.idxFuncFrom
    by_cases hlt : pos < s.size
    · rw [if_pos hlt, List.drop_eq_getElem_cons (by omega : pos < s.data.toList.length), List.any_cons]
      have e : s.data.toList.getD pos 0 = s.data.toList[pos]'(by omega) := by rw [List.getD_eq_getElem?_getD, List.getElem?_eq_getElem (by omega)]; rfl
      by_cases h128 : (s.data.toList.getD pos 0).toNat < 128
      · rw [decode_low s pos h128, e]
        dsimp only
        cases hpb : p (s.data.toList[pos]'(by omega)).toNat
        · rw [if_neg (by simp), idxFrom_any p hp s f (pos + 1) (by omega)]
          rfl
        · rw [if_pos rfl]
          simp
      · rw [if_pos (hp _ (by have := decode_high s pos h128; omega)), ← e, hp _ (by omega)]
        simp
    · rw [if_neg hlt, List.drop_eq_nil_of_le (by omega)]
      simp
end Go.Proofs.YtonfimidgbppeaaGreatDoor.Ev
