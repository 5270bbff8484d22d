/- Values whose cases' values have no cases that are read: weaker and stronger contracts (this session's own). No condition. -/
import Derived.Test.YtonfimidgbppeaaGreatDoorEv7
namespace Go.Proofs.YtonfimidgbppeaaGreatDoor.Ev
open Go.RowKit
set_option linter.unusedVariables false
set_option linter.unusedSimpArgs false

/-- a value of which only the number of its cases is known -/
abbrev KV0 : Kd := .agg (.pair (.int .i64) (.pair .str (.pair (.int .i64) (.pair (.slice .str) (.oslice 0)))))
abbrev KC0 : Kd := .agg (.pair .str KV0)
/-- a value with its cases -/
abbrev KV1 : Kd := .agg (.pair (.int .i64) (.pair .str (.pair (.int .i64) (.pair (.slice .str) (.slice KC0)))))
/-- a value that has no cases -/
def upV (x : KV0.T) : Option KV1.T := match Nat.beq x.2.2.2.2 0 with
  | true => some (x.1, x.2.1, x.2.2.1, x.2.2.2.1, [])
  | false => none
theorem Rd.up {w : World} {F : Nat → Prop} {vs : List Value} {x : KV0.T} {y : KV1.T} (h : Rd w F KV0 vs x) (hu : upV x = some y) : Rd w F KV1 vs y := by
  unfold upV at hu
  split at hu
  · rename_i h0
    have h0 : x.2.2.2.2 = 0 := Nat.eq_of_beq_eq_true h0
    cases hu
    obtain ⟨v1, r1, rfl, a1, v2, r2, rfl, a2, v3, r3, rfl, a3, v4, r4, rfl, a4, A, c, a5, a6⟩ := h
    refine ⟨v1, _, rfl, a1, v2, _, rfl, a2, v3, _, rfl, a3, v4, _, rfl, a4, A, c, ?_, Nat.zero_le _, .inl rfl⟩
    rw [a5, h0]; rfl
  · cases hu
theorem RdV.up {w : World} {F : Nat → Prop} {v : Value} {x : KV0.T} {y : KV1.T} (h : RdV w F KV0 v x) (hu : upV x = some y) : RdV w F KV1 v y := by
  obtain ⟨_, vs, h1, h2⟩ := h
  exact ⟨rfl, vs, h1, Rd.up h2 hu⟩
def upO : (os : List Lm) → OT (.val KV0 :: os) → Option (OT (.val KV1 :: os))
  | [], y => upV y
  | _ :: _, y => match upV y.1 with
    | some v => some (v, y.2)
    | none => none
def upF {os : List Lm} (x : Option (OT (.val KV0 :: os))) : Option (OT (.val KV1 :: os)) := match x with
  | some y => upO os y
  | none => none
theorem ownRs_up : ∀ (os : List Lm) (vs : List Value), ownRs (.val KV1 :: os) vs = ownRs (.val KV0 :: os) vs
  | _, [] => rfl
  | _, _ :: _ => rfl
variable {P : Program} {J : Inv}
theorem FnOK.up {g : Nat} {ps : List Pm} {os : List Lm} {f : Nat → PT ps → Option (OT (.val KV0 :: os))} (h : FnOK P J g ⟨ps, .val KV0 :: os, f⟩) : FnOK P J g ⟨ps, .val KV1 :: os, fun k x => upF (f k x)⟩ := by
  refine ⟨h.enters, fun k B vals x y hB ha hn ho hy => ?_⟩
  have hy : upF (f k x) = some y := hy
  cases hf : f k x with
  | none => rw [hf] at hy; cases hy
  | some y0 =>
    rw [hf] at hy
    have hy : upO os y0 = some y := hy
    refine (h.ok k B vals x y0 hB ha hn ho hf).mono fun e w' ⟨vs, h1, h2, h3, h4, h5⟩ => ⟨vs, h1, ?_, by rw [ownRs_up]; exact h3, by rw [ownRs_up]; exact h4, h5⟩
    rw [ownRs_up]
    cases os with
    | nil =>
      obtain ⟨v, q1, q2⟩ := h2
      exact ⟨v, q1, RdV.up q2 hy⟩
    | cons p os =>
      obtain ⟨v, r, q1, q2, q3⟩ := h2
      have hy : (match upV y0.1 with | some v => some (v, y0.2) | none => none) = some y := hy
      split at hy
      · rename_i u hu
        cases hy
        exact ⟨v, r, q1, RdV.up q2 hu, q3⟩
      · cases hy
/-- of a function that is not called nothing is said -/
theorem fnOK_none {g : Nat} {ps : List Pm} {rs : List Lm} (henter : ∃ fn, P.funcs[g]? = some fn ∧ fn.body.isSome = true ∧ (fn.name == "runtime.NumGoroutine") = false) : FnOK P J g ⟨ps, rs, fun _ _ => none⟩ :=
  ⟨henter, fun k B vals x y hB ha hn ho hy => by cases hy⟩
/-- slices.Clone of an empty slice whose elements are not read -/
theorem FnOK.cloneO {g : Nat} {e : Kd} {f : Nat → PT [.val (.slice e)] → Option (List e.T)} (h : FnOK P J g ⟨[.val (.slice e)], [.own e], f⟩) (hf : ∀ k, f k (([] : List e.T), ()) = some []) :
    FnOK P J g ⟨[.val (.oslice 0)], [.val (.oslice 0)], fun _ x => match Nat.beq x.1 0 with | true => some (0 : Nat) | false => none⟩ := by
  refine ⟨h.enters, fun k B vals x y hB ha hn ho hy => ?_⟩
  have hy : (match Nat.beq x.1 0 with | true => some (0 : Nat) | false => none) = some y := hy
  split at hy
  · rename_i h0
    have h0 : x.1 = 0 := Nat.eq_of_beq_eq_true h0
    cases hy
    obtain ⟨v, r, rfl, a1, hr⟩ := ha
    have hr : r = [] := hr
    subst hr
    obtain ⟨_, vs, q1, A, c, q2, q3⟩ := a1
    have ha1 : RdV B.w0 B.F0 (.slice e) v ([] : List e.T) := ⟨rfl, vs, q1, A, c, by rw [q2, h0]; rfl, Nat.zero_le _, .inl rfl⟩
    refine (h.ok k B [v] (([] : List e.T), ()) [] hB ⟨v, [], rfl, ha1, rfl⟩ hn ho (hf k)).mono fun en w' ⟨vs', h1, h2, h3, h4, h5⟩ => ?_
    obtain ⟨v', rfl, h2⟩ := h2
    refine ⟨[v'], h1, ⟨v', rfl, rfl, [v'], by simp [valCells, Kd.isAgg], ?_⟩, by simp [ownRs], by simp [ownRs], h5⟩
    rcases h2 with ⟨q, _⟩ | ⟨b, off, cap, cc, t, fr, q, _⟩
    · exact ⟨none, 0, by rw [q], Nat.le_refl _⟩
    · exact ⟨_, cap, by rw [q]; rfl, Nat.zero_le _⟩
  · cases hy
/-- of a slice only its length is read -/
theorem RdT.oslice {t e : TypeId} (ht : P.underlying t = some (.slice e)) : RdT P t (.oslice 0) (fun _ => True) := by
  intro H enc w base spare held fuel cs x h hn
  rcases DataW.trod_slice ht h with ⟨rfl, rfl⟩ | ⟨a, len, cap, elems, rest, n, rfl, rfl, rfl, hb, hl, hc, hel, hread, _, _⟩
  · exact ⟨(0 : Nat), ⟨none, 0, rfl, Nat.le_refl _⟩, trivial⟩
  · exact ⟨len, ⟨some a, cap, rfl, by omega⟩, trivial⟩
end Go.Proofs.YtonfimidgbppeaaGreatDoor.Ev
