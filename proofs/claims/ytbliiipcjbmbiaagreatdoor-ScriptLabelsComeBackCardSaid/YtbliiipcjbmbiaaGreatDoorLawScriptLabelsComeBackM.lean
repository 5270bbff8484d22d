-- Written by this session's program (wip/ev/evrow.py): the row of the law ScriptLabelsComeBack, out of its pure statement and the evaluator's functions. Lean checks it.
import Derived.Test.YtbliiipcjbmbiaaGreatDoorCards
import Derived.Test.YtbliiipcjbmbiaaGreatDoorTie
import Derived.Test.YtbliiipcjbmbiaaGreatDoorDoor
import Derived.Test.YtbliiipcjbmbiaaGreatDoorRows
import Derived.Test.YtbliiipcjbmbiaaGreatDoorGc
import Derived.Test.YtbliiipcjbmbiaaGreatDoorFLab
import Derived.Test.YtbliiipcjbmbiaaGreatDoorPlLab
import Derived.WalkKit
import Derived.ProofKit
import Derived.OpenShut
import Derived.ShutString
import Derived.ChangeOld
import Derived.Below
import Derived.Carry
import Derived.SizedLaws
namespace Go.Proofs.YtbliiipcjbmbiaaGreatDoor.scriptLabelsComeBack
open Go.ChangeShapes Go.WideShapes Go.ChangeAt Go.RowKit Go.Proofs.YtbliiipcjbmbiaaGreatDoor.Ev
set_option linter.unusedVariables false
theorem own : ownKnob Tryz.prog.godebug = none := by kernel_rfl
theorem laidOut : laidOutB Tryz.prog = true := by kernel_rfl
set_option maxRecDepth 100000 in
theorem lifted (os : Os) (started : os.Started) (H : Type) (enc : TypeId × Value → H) :
    ReturnsInHanded {} Tryz.checked os 7 .any (fun w args => (Rows.scriptLabelsComeBackSpec.pre enc Tryz.prog Tryz.f7 [] false w args ∧ laidMetH Tryz.prog Rows.scriptLabelsComeBackRow.laid w) ∧ sizedMet enc Tryz.prog Tryz.f7 (OpenSpec.ofChange Rows.scriptLabelsComeBackSpec) false w args) (Rows.scriptLabelsComeBackSpec.post enc Tryz.prog Tryz.f7 false true false false) := by
  refine Door.handed_and_shaped (C := Tryz.checked) (X := fun w _ => laidMetH Tryz.prog Rows.scriptLabelsComeBackRow.laid w) (fun _ _ _ hh h => h.of_heap hh) own started (by kernel_rfl) Tryz.func7
    (ChangeSpec.witness_shaped (enc := enc) (C := Tryz.checked) (os := os) (X := fun w _ => laidMetH Tryz.prog Rows.scriptLabelsComeBackRow.laid w) false (World.laidAll Tryz.prog os Rows.scriptLabelsComeBackRow.laid) #[.agg #[.string ByteArray.empty, .string ByteArray.empty], .string ByteArray.empty] 8 (World.laidAll_os _ _ _)
      (World.shaped_of_ZipB (by kernel_rfl) (by kernel_rfl)) (by kernel_rfl) (by kernel_rfl) (by kernel_rfl)
      (by rw [MakeChecks.laidMetH_plain _ _ _ (by kernel_rfl)]; exact laidMet_laidAll _ (by kernel_rfl) (by kernel_rfl))) ?_
  intro W base args ds gs before hval0 hW hcnd hsz0 _ hsh _
  have hsz : (DataW.weightsEach Tryz.prog (Tryz.f7.params.toList ++ Rows.scriptLabelsComeBackSpec.plain.varTypes Tryz.prog) (ds ++ gs)).all (· ≤ reachBytes) = true := hsz0
  have hval : ∀ (j : Nat) t v, Tryz.f7.params[j]? = some t → args[j]? = some v → Value.okWide Tryz.prog W .any base t v := hval0
  have hW' := hW
  obtain ⟨p, q, hA0, hV, rfl, hfz, hnd⟩ := hW
  have hA : DataW.TrodAll enc Tryz.prog W 0 (fun _ => true) true Tryz.f7.params.toList args.toList ds p := hA0
  rw [Tryz.params7] at hA hval hsz
  obtain ⟨v0, vs0, d0, ds0, p0, q0, hargs, rfl, rfl, h0, r0⟩ := trodAll_cons hA
  obtain ⟨v1, vs1, d1, ds1, p1, q1, rfl, rfl, rfl, h1, r1⟩ := trodAll_cons r0
  obtain ⟨rfl, rfl, rfl⟩ := trodAll_nil r1
  obtain rfl : args = #[v0, v1] := by cases args; simp_all
  obtain ⟨rfl, rfl⟩ := trodVars_none hV
  have k0 := h0
  have lt0 : ∀ x ∈ p0, x.block < W.heap.size := by obtain ⟨m, hm⟩ := k0; exact DataW.trod_lt m _ _ _ hm
  obtain ⟨x0, hx0, w0⟩ := RdT.arg (RdT.agg (l := [(0, 9), (1, 9)]) Tryz.underlying51 rfl (by kernel_rfl) (RdFs.cons (by kernel_rfl) (RdT.str Tryz.underlying9) (RdFs.one (by kernel_rfl) (RdT.str Tryz.underlying9)))) rfl (by obtain ⟨a, rfl, _⟩ := okWide_struct Tryz.underlying51 (hval 0 51 v0 rfl rfl); rfl) h0 (fun n hn => by have z := List.all_eq_true.1 hsz _ (DataW.weights_mem_each (j := 0) rfl rfl n hn); exact (of_decide_eq_true z : n ≤ reachBytes))
  have k1 := h1
  have lt1 : ∀ x ∈ p1, x.block < W.heap.size := by obtain ⟨m, hm⟩ := k1; exact DataW.trod_lt m _ _ _ hm
  obtain ⟨x1, hx1, w1⟩ := RdT.arg (RdT.str Tryz.underlying9) rfl (by obtain ⟨a, rfl⟩ := okWide_string Tryz.underlying9 (hval 1 9 v1 rfl rfl); rfl) h1 (fun n hn => by have z := List.all_eq_true.1 hsz _ (DataW.weights_mem_each (j := 1) rfl rfl n hn); exact (of_decide_eq_true z : n ≤ reachBytes))
  clear hA0 hval0 hsz0 hsz
  obtain ⟨k, h⟩ := ScriptLabelsComeBackPure x0 x1 w0 w1
  have hI : JS.I W := Go.Proofs.cell_of_shapedOpen_int (zero := #[.int .i64 0]) (t := 3) hsh (of_decide_eq_true (by kernel_rfl)) (by kernel_rfl) rfl (by kernel_rfl) (by kernel_rfl) Tryz.underlying3
  refine (law_end (J := JS) (ps := [.val (.agg (.pair (.str) (.str))), .val (.str)]) (S := S7) (vals := [v0, v1]) (x := (x0, x1, ())) ok7 hI (by obtain ⟨m, hm⟩ := hI; rcases Nat.lt_or_ge 0 W.heap.size with h | h; exact h; simp [World.cell?, Array.getElem?_eq_none h] at hm) rfl ⟨v0, _, rfl, hx0, v1, _, rfl, hx1, rfl⟩ h).mono fun e W' ⟨he, bel⟩ => ?_
  subst he
  exact ⟨_, rfl, _, _, _, [], _, [], hW', trodAll_mk1 (shut_bool Tryz.underlying4 _), (trodAll_cons_mk (Below.trod laidOut (by kernel_rfl) (of_decide_eq_true (by kernel_rfl)) k0 bel lt0) (trodAll_cons_mk (Below.trod laidOut (by kernel_rfl) (of_decide_eq_true (by kernel_rfl)) k1 bel lt1) trodAll_mk0)), rfl, bel.frame _, fun h => by cases h⟩
theorem and_tt {a b : Bool} (h : a = true) (k : b = true) : (a && b) = true := by rw [h, k]; rfl
theorem cl0 : (Rows.scriptLabelsComeBackRow.wf (OpenSpec.ofChange Rows.scriptLabelsComeBackSpec)) = true := by kernel_rfl
theorem cl1 : (laidOutB Tryz.prog) = true := by kernel_rfl
theorem cl2 : (mapsRowed Tryz.prog) = true := by kernel_rfl
theorem cl3 : (Tryz.f7.params.all (Tryz.prog.readableRec ·)) = true := by kernel_rfl
theorem cl4 : (namedTie Tryz.prog Rows.scriptLabelsComeBackRow.named Rows.scriptLabelsComeBackSpec.vars) = true := by kernel_rfl
theorem cl5 : ((Rows.scriptLabelsComeBackRow.stops == [])) = true := by kernel_rfl
theorem cl6 : ((Tryz.prog.stops == [])) = true := by kernel_rfl
theorem cl7 : ((Rows.scriptLabelsComeBackRow.knobs == [])) = true := by kernel_rfl
theorem cl8 : ((Tryz.prog.stopKnobs == [])) = true := by kernel_rfl
theorem cl9 : ((Rows.scriptLabelsComeBackRow.inPlace == Tryz.prog.inPlace 7)) = true := by kernel_rfl
theorem cl10 : ((Rows.scriptLabelsComeBackRow.unfollowed == Tryz.prog.unfollowed 7)) = true := by kernel_rfl
theorem cl11 : ((Rows.scriptLabelsComeBackRow.recurses == Tryz.prog.recurses 7)) = true := by kernel_rfl
theorem cl12 : ((Rows.scriptLabelsComeBackRow.named == Tryz.prog.varsNamed 7)) = true := by kernel_rfl
theorem cl13 : ((Rows.scriptLabelsComeBackRow.maps == (Tryz.f7.params.toList ++ Rows.scriptLabelsComeBackSpec.plain.varTypes Tryz.prog).any (Tryz.prog.mapsRec ·))) = true := by kernel_rfl
theorem cl14 : ((Rows.scriptLabelsComeBackRow.ifaces == (Tryz.f7.params.toList ++ Rows.scriptLabelsComeBackSpec.plain.varTypes Tryz.prog).any (Tryz.prog.ifacesRec ·))) = true := by kernel_rfl
theorem cl15 : ((Rows.scriptLabelsComeBackRow.mapsOut == Tryz.prog.mapsAmong Tryz.f7.resultTypes.toList)) = true := by kernel_rfl
theorem cl16 : ((Rows.scriptLabelsComeBackRow.loops == (Tryz.f7.params.toList ++ Rows.scriptLabelsComeBackSpec.plain.varTypes Tryz.prog).any (Tryz.prog.loopsFrom ·))) = true := by kernel_rfl
theorem cl17 : ((Rows.scriptLabelsComeBackRow.wideKeys == (Tryz.f7.params.toList ++ Rows.scriptLabelsComeBackSpec.plain.varTypes Tryz.prog ++ Tryz.f7.resultTypes.toList).any (Tryz.prog.wideKeysFrom ·))) = true := by kernel_rfl
theorem cl18 : (Rows.scriptLabelsComeBackSpec.vars.all (Tryz.prog.varReadable ·)) = true := by kernel_rfl
theorem cl19 : (Tryz.f7.resultTypes.all (fun t => Tryz.prog.readableRec t && decide (t < Tryz.prog.types.size))) = true := by kernel_rfl
theorem cl20 : ((Rows.scriptLabelsComeBackRow.ifacesOut == Tryz.f7.resultTypes.toList.any (Tryz.prog.ifacesRec ·))) = true := by kernel_rfl
theorem cl21 : ((Rows.scriptLabelsComeBackRow.loopsOut == Tryz.f7.resultTypes.toList.any (Tryz.prog.loopsFrom ·))) = true := by kernel_rfl
theorem cl22 : ((Rows.scriptLabelsComeBackRow.plainKeys == Tryz.prog.plainKeys)) = true := by kernel_rfl
theorem cl23 : (Rows.scriptLabelsComeBackRow.shortTexts.isNone) = true := by kernel_rfl
theorem cl24 : (Tryz.prog.stopsHeard) = true := by kernel_rfl
theorem cl25 : (Tryz.prog.mayEnter) = true := by kernel_rfl
theorem cl26 : ((Rows.scriptLabelsComeBackRow.lifted == Tryz.prog.liftsFinal)) = true := by kernel_rfl
theorem cl27 : ((Tryz.prog.make == some Rows.scriptLabelsComeBackRow.make)) = true := by kernel_rfl
theorem cl28 : ((Rows.scriptLabelsComeBackRow.kinds == (if Rows.scriptLabelsComeBackRow.domain.isEmpty then [] else Tryz.f7.params.toList.map fun t => match Tryz.prog.underlying t with | some (.int k) => some k | _ => none))) = true := by kernel_rfl
theorem cl29 : ((Rows.scriptLabelsComeBackRow.pinned == Rows.scriptLabelsComeBackRow.pinnedBy)) = true := by kernel_rfl
theorem cl30 : ((Rows.scriptLabelsComeBackRow.veiled == (Tryz.f7.params.toList ++ Rows.scriptLabelsComeBackSpec.plain.varTypes Tryz.prog ++ Tryz.f7.resultTypes.toList).any (Tryz.prog.veiledRec ·))) = true := by kernel_rfl
theorem cl31 : (Rows.scriptLabelsComeBackRow.veiledFits Tryz.prog Tryz.f7.params.toList (Tryz.f7.params.toList ++ Rows.scriptLabelsComeBackSpec.plain.varTypes Tryz.prog ++ Tryz.f7.resultTypes.toList)) = true := by kernel_rfl
theorem joined : joinedFacts Tryz.prog 7 Tryz.f7 Rows.scriptLabelsComeBackSpec Rows.scriptLabelsComeBackRow = true := by
  unfold joinedFacts
  exact (and_tt (and_tt (and_tt (and_tt (and_tt (and_tt (and_tt (and_tt (and_tt (and_tt (and_tt (and_tt (and_tt (and_tt (and_tt (and_tt (and_tt (and_tt (and_tt (and_tt (and_tt (and_tt (and_tt (and_tt (and_tt (and_tt (and_tt (and_tt (and_tt (and_tt (and_tt cl0 cl1) cl2) cl3) cl4) cl5) cl6) cl7) cl8) cl9) cl10) cl11) cl12) cl13) cl14) cl15) cl16) cl17) cl18) cl19) cl20) cl21) cl22) cl23) cl24) cl25) cl26) cl27) (by kernel_rfl)) cl29) cl30) cl31)
theorem over : Rows.scriptLabelsComeBackRow.holds Tryz.pinned (OpenSpec.ofChange Rows.scriptLabelsComeBackSpec) :=
  OpenClaim.holds_of_wide 7 Tryz.f7 rfl rfl rfl rfl rfl rfl rfl ⟨rfl, rfl, rfl, rfl, rfl⟩ rfl rfl rfl rfl rfl (by kernel_rfl) Tryz.func7 joined
    (of_decide_eq_true (by kernel_rfl)) (by unfold Func.isWrapper; first | (rw [if_pos (by decide +kernel)]; kernel_rfl) | (rw [if_neg (by decide +kernel)]; exact ⟨rfl, rfl⟩))
    (fun os started H enc _ => lifted os started H enc)
theorem proved : Rows.ScriptLabelsComeBackSaid := over
theorem card : Rows.ScriptLabelsComeBackCardSaid :=
  Claim7.holds_tied_plain_at .later [] [.data, .pinned] true (true, "ed119285034d3614d52ad69946400fb385802d24e188993282e9646b2a057b55") true proved (fun _ h => by cases h) (by kernel_rfl) (fun _ h => by cases h) scriptLabelsComeBack_row_tie rfl ⟨rfl, rfl⟩ (by kernel_rfl) rfl
    (fun f fn hf hfn => by
      obtain rfl : f = 7 := Option.some.inj ((show Tryz.prog.funcNamed "smithyard/smithyardlaw2.ScriptLabelsComeBack" = some 7 by kernel_rfl).symm.trans hf) |>.symm
      obtain rfl : fn = Tryz.f7 := (Option.some.inj (Tryz.func7.symm.trans hfn)).symm
      exact ⟨by kernel_rfl, fun j t ht => by
        rw [Tryz.params7] at ht
        have hm : t ∈ [51, 9] := by simpa using Array.mem_of_getElem? ht
        have hall : ([51, 9].all fun u => !Tryz.prog.wantsStandIn u) = true := by kernel_rfl
        exact (show Tryz.prog.wantsStandIn t = false by simpa using List.all_eq_true.1 hall t hm)⟩)
    (by kernel_rfl)
#print axioms card
#print axioms proved
end Go.Proofs.YtbliiipcjbmbiaaGreatDoor.scriptLabelsComeBack
namespace Go.Proofs.YtbliiipcjbmbiaaGreatDoor
/-- The row, under a short name, for the claim. -/
theorem scriptLabelsComeBack_holds : Rows.ScriptLabelsComeBackCardSaid := scriptLabelsComeBack.card
end Go.Proofs.YtbliiipcjbmbiaaGreatDoor
