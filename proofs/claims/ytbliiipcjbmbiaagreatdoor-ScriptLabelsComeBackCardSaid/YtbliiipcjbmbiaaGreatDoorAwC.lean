/- smithyardlaw2.awake run in place: the table of functions and what is given in it (this session's own). No condition. -/
import Derived.Test.YtbliiipcjbmbiaaGreatDoorYAwC
import Derived.Test.YtbliiipcjbmbiaaGreatDoorAps
import Derived.Test.YtbliiipcjbmbiaaGreatDoorDef
namespace Go.Proofs.YtbliiipcjbmbiaaGreatDoor.Ev
open Go Go.Proofs Go.RowKit Go.Shelf
set_option linter.unusedVariables false
set_option maxRecDepth 100000
noncomputable def allC0 : Code := match Tryz.f115.body with
  | some (.seq c0 _) => c0
  | _ => .skip
noncomputable def allRest : Code := match Tryz.f115.body with
  | some (.seq _ (.seq _ r)) => r
  | _ => .skip
def ΓAll : Ctx := ⟨alookup tysYAwC, alookup fnsYAwC, [], [], [(3, 9000000)], [], [16], eqsYAwC, [], [], alookup iosYAwC, alookup [], alookup []⟩
theorem cAll : CtxOK Tryz.prog JS ΓAll := ⟨tysOKYAwC.get, fnsOKYAwC.get, by kernel_rfl, eqsOKYAwC, iosOKYAwC.get, AllL.get (l := []) trivial, AllL.get (l := []) trivial⟩
noncomputable def givY (y : Nat → Option YFn) (g : Nat) : Option YFn :=
  bif Nat.beq g 115 then some ⟨fun k tvs wr obs => ydrun (ΓAll.y y) k Tryz.f115.ntmps Tryz.f115.results.toList allC0 allRest 5 tvs wr obs⟩
  else bif Nat.beq g 274 then some (apsF 258)
  else none
theorem givY_ok : ∀ y : Nat → Option YFn, (∀ g F, y g = some F → YOK Tryz.prog JS g F) → ∀ g F, givY y g = some F → YOK Tryz.prog JS g F := by
  intro y hy g F h
  unfold givY at h
  cases h1 : Nat.beq g 115 with
  | true =>
    rw [h1] at h
    obtain rfl := Nat.eq_of_beq_eq_true h1
    cases h
    exact YOK_defer (cAll.y hy) (fn := Tryz.f115) (c0 := allC0) (rest := allRest) (d := 5) rfl rfl (by decide) rfl rfl rfl rfl rfl rfl (by decide)
      (enters_of Tryz.func157 (by kernel_rfl) rfl)
      (fun args w hs => by
        obtain ⟨l⟩ := args
        match l, hs with
        | [a, b, c], _ => exact all_idle a b c w)
  | false =>
    rw [h1] at h
    cases h2 : Nat.beq g 274 with
    | true =>
      rw [h2] at h
      obtain rfl := Nat.eq_of_beq_eq_true h2
      cases h
      exact yok_aps (ρ := Tryz.appendSeqS_ren) Tryz.appendSeqS ⟨Tryz.f274, rfl, rfl, by decide⟩ (enters_of Tryz.func258 (by kernel_rfl) rfl)
    | false => rw [h2] at h; cases h
noncomputable def yAwk : Nat → Option YFn := ytab tabYAwC givY 60
theorem yAwk_ok : ∀ g F, yAwk g = some F → YOK Tryz.prog JS g F := ytab_ok tabYAwC_ok givY_ok 60
noncomputable def awakeRun (k : Nat) : Option Bool := runFn (rowYAwC10.Γ.y yAwk) k [] [.val .bool] Tryz.f10.ntmps Tryz.f10.results.toList (Tryz.f10.body.getD .skip) ()
theorem runAwake : awakeRun 100 = some true := by kernel_rfl
def S10 (_ : Nat) (x : PT []) : Option (OT [.val .bool]) := some true
def F10 : Fn := ⟨[], [.val .bool], S10⟩
/-- ████ awake holds ████ -/
theorem ok10 : FnOK Tryz.prog JS 10 F10 := fnOK_run (rowYAwC10_ok.ctx.y yAwk_ok) (fn := Tryz.f10) (c := Tryz.f10.body.getD .skip) rfl rfl (by decide) runAwake
end Go.Proofs.YtbliiipcjbmbiaaGreatDoor.Ev
