/- Laws of BlobSelects: BlobSelectsFit (this session's own). No condition but those in the statements. -/
import Derived.Test.YtjdfbpjbobmgdaaDoorPvF
import Derived.Test.YtjdfbpjbobmgdaaDoorStBlobSelectsFit
namespace Go.Proofs.YtjdfbpjbobmgdaaDoor.Ev
open Go Go.RowKit
set_option linter.unusedVariables false
set_option linter.unusedSimpArgs false
theorem pat_dbl : PatOK dbl := by
  unfold PatOK S8
  refine Ult.no (by decide) (Ult.no (by decide) ?_)
  have h21 := S21_spec dbl (by decide)
  refine Ult.bind (Ult.call (f := fun k => S21 k (dbl, sl, ())) (fun _ => Nat.le_refl _) h21) ?_
  rw [sp_dbl]
  refine Ult.loopI (fun _ => Nat.le_refl _) (fun x => x = 0 ∨ x = 1) (fun x => 1 - x.toNat) (.inl rfl) ?_
  intro x hx next
  rcases hx with rfl | rfl
  · refine Ult.yes (by decide) (Ult.bindc (a := dbl) rfl (Ult.yes (seq_self _) ?_))
    have e : iadd .i64 0 1 = 1 := by decide
    rw [e]
    exact next 1 (.inr rfl) (by decide)
  · exact Ult.no (by decide) Ult.ret
theorem S6_spec {p s : ByteArray} (hp : PatOK p) (hs : PathOK s) : Ultk (fun k => S6 k (p, s, ())) (fitOf p s, 0) := by
  unfold S6
  refine Ult.bind (Ult.call (f := fun k => S8 k (p, ())) (fun _ => Nat.le_refl _) hp) (Ult.no (by decide) ?_)
  refine Ult.bind (Ult.call (f := fun k => S17 k (s, ())) (fun _ => Nat.le_refl _) hs.2) (Ult.no (by decide) ?_)
  have h18 := fit_ult hp.size hs.1
  exact Ult.bind (Ult.call (f := fun k => S18 k (p, s, ())) (fun _ => Nat.le_refl _) h18) Ult.ret

theorem loopN_mono {X R : Type} {st : (X → Option R) → X → Option R} (h : ∀ f g : X → Option R, (∀ y r, f y = some r → g y = some r) → ∀ x r, st f x = some r → st g x = some r) : ∀ (n m : Nat) (x : X) (r : R), n ≤ m → loopN n st x = some r → loopN m st x = some r
  | 0, m, x, r, _, e => by cases e
  | n + 1, 0, x, r, hle, e => by omega
  | n + 1, m + 1, x, r, hle, e => h (loopN n st) (loopN m st) (fun y r' q => loopN_mono h n m y r' (by omega) q) x r e
abbrev stD : ((Int × (Int × (List Int))) → (Option ByteArray)) → (Int × (Int × (List Int))) → Option ByteArray := fun a5 a6 => cnd (ilt a6.2.1 (len (List.replicate 16 (0 : Int)))) (bnd (bt? (⟨#[48, 49, 50, 51, 52, 53, 54, 55, 56, 57, 97, 98, 99, 100, 101, 102]⟩ : ByteArray) (iand Go.IntKind.u64 a6.1 15)) (fun (a7 : Int) => bnd (inb (len a6.2.2) (isub Go.IntKind.i64 15 a6.2.1)) (fun (a8 : Unit) => bnd (ishr? Go.IntKind.u64 a6.1 4) (fun (a9 : Int) => a5 (a9, iadd Go.IntKind.i64 a6.2.1 1, setAt a6.2.2 (isub Go.IntKind.i64 15 a6.2.1) a7))))) (some (strOf a6.2.2))
theorem stD_mono (f g : (Int × (Int × (List Int))) → Option ByteArray) (h : ∀ y r, f y = some r → g y = some r) (x : Int × (Int × (List Int))) (r : ByteArray) (e : stD f x = some r) : stD g x = some r := by
  unfold stD at *
  cases hc : ilt x.2.1 (len (List.replicate 16 (0 : Int))) with
  | false => rw [hc] at e; exact e
  | true =>
    rw [hc] at e
    have e : bnd _ _ = some r := e
    show bnd _ _ = some r
    unfold bnd at *
    obtain ⟨a, h1, e⟩ := Option.bind_eq_some_iff.1 e
    obtain ⟨b, h2, e⟩ := Option.bind_eq_some_iff.1 e
    obtain ⟨c, h3, e⟩ := Option.bind_eq_some_iff.1 e
    rw [h1]
    show Option.bind _ _ = _
    rw [h2]
    show Option.bind _ _ = _
    rw [h3]
    exact h _ _ e
theorem digD : loopN 20 stD (14695981039346656037, 0, List.replicate 16 (0 : Int)) = some ⟨#[99, 98, 102, 50, 57, 99, 101, 52, 56, 52, 50, 50, 50, 51, 50, 53]⟩ := by decide +kernel
theorem S10_ult : Ultk (fun k => S10 k ()) true := by
  unfold S10
  have h26 : Ultk (fun k => S26 k (([] : List Int), ())) ⟨#[99, 98, 102, 50, 57, 99, 101, 52, 56, 52, 50, 50, 50, 51, 50, 53]⟩ := by
    unfold S26
    refine Ult.loopI (fun _ => Nat.le_refl _) (fun x => x = (14695981039346656037, 0)) (fun x => 0) rfl ?_
    rintro _ rfl next
    refine Ult.no (by decide) (Ult.bindc (a := List.replicate 16 (0 : Int)) (by decide +kernel) ?_)
    refine ⟨20, fun p hp => ?_⟩
    have : 20 ≤ min p.1 p.2 := hp
    exact loopN_mono stD_mono 20 p.1 _ _ (by omega) digD
  refine Ult.bind (Ult.call (f := fun k => S26 k (([] : List Int), ())) (fun _ => Nat.le_refl _) h26) ?_
  rw [seq_self]
  exact Ult.ret

end Go.Proofs.YtjdfbpjbobmgdaaDoor.Ev
