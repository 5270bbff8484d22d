-- Written by this session's program (wip/ev/evrow.py): the row of the law ConfigReadsMatchSpec, out of its pure statement and the evaluator's functions. Lean checks it.
import Derived.Test.YtklmkonpilkfnaaDoorCards
import Derived.Test.YtklmkonpilkfnaaDoorTie
import Derived.Test.YtklmkonpilkfnaaDoorDoor
import Derived.Test.YtklmkonpilkfnaaDoorRows
import Derived.Test.YtklmkonpilkfnaaDoorEv6
import Derived.Test.YtklmkonpilkfnaaDoorFCfa
import Derived.Test.YtklmkonpilkfnaaDoorStConfigReadsMatchSpecUpto
import Derived.Test.YtklmkonpilkfnaaDoorPureConfigReadsMatchSpecUpto
import Derived.WalkKit
import Derived.ProofKit
import Derived.OpenShut
import Derived.ShutString
import Derived.ChangeOld
import Derived.Below
import Derived.Carry
import Derived.SizedLaws
namespace Go.Proofs.YtklmkonpilkfnaaDoor.configReadsMatchSpec
open Go.ChangeShapes Go.WideShapes Go.ChangeAt Go.RowKit Go.Proofs.YtklmkonpilkfnaaDoor.Ev
set_option linter.unusedVariables false
theorem own : ownKnob Tryd.prog.godebug = none := by kernel_rfl
theorem laidOut : laidOutB Tryd.prog = true := by kernel_rfl
set_option maxRecDepth 100000 in
theorem contract (H : Type) (enc : TypeId × Value → H) (W : World) (base : Nat) (args : Array Value) (ds gs : List (DataW H)) (before : List MemPlace)
    (hval0 : ∀ (j : Nat) t v, Tryd.f9.params[j]? = some t → args[j]? = some v → Value.okWide Tryd.prog W .any base t v)
    (hW : DataW.Whole enc Tryd.prog Tryd.f9.params.toList Rows.configReadsMatchSpecSpec.vars false W args.toList ds gs before) (hk : Rows.uptoSmall H (ds ++ gs) = true)
    (hsz0 : (DataW.weightsEach Tryd.prog (Tryd.f9.params.toList ++ Rows.configReadsMatchSpecSpec.plain.varTypes Tryd.prog) (ds ++ gs)).all (· ≤ reachBytes) = true) (hsh : W.ShapedOpen Tryd.prog) :
    Calls Tryd.prog 9 args W fun e W' => ∃ v, e = .returned v ∧ Rows.configReadsMatchSpecSpec.post enc Tryd.prog Tryd.f9 false true false false W args v W' := by
  have hsz : (DataW.weightsEach Tryd.prog (Tryd.f9.params.toList ++ Rows.configReadsMatchSpecSpec.plain.varTypes Tryd.prog) (ds ++ gs)).all (· ≤ reachBytes) = true := hsz0
  have hval : ∀ (j : Nat) t v, Tryd.f9.params[j]? = some t → args[j]? = some v → Value.okWide Tryd.prog W .any base t v := hval0
  have hW' := hW
  obtain ⟨p, q, hA0, hV, rfl, hfz, hnd⟩ := hW
  have hA : DataW.TrodAll enc Tryd.prog W 0 (fun _ => true) true Tryd.f9.params.toList args.toList ds p := hA0
  rw [Tryd.params9] at hA hval hsz
  obtain ⟨v0, vs0, d0, ds0, p0, q0, hargs, rfl, rfl, h0, r0⟩ := trodAll_cons hA
  obtain ⟨v1, vs1, d1, ds1, p1, q1, rfl, rfl, rfl, h1, r1⟩ := trodAll_cons r0
  obtain ⟨rfl, rfl, rfl⟩ := trodAll_nil r1
  obtain rfl : args = #[v0, v1] := by cases args; simp_all
  obtain ⟨rfl, rfl⟩ := trodVars_none hV
  have k0 := h0
  have lt0 : ∀ x ∈ p0, x.block < W.heap.size := by obtain ⟨m, hm⟩ := k0; exact DataW.trod_lt m _ _ _ hm
  obtain ⟨x0, hx0, w0⟩ := RdT.arg (RdT.slice (B := 40) Tryd.underlying22 (by kernel_rfl) (by decide) (by kernel_rfl) (RdT.agg (l := [(0, 9), (1, 43)]) Tryd.underlying70 rfl (by kernel_rfl) (RdFs.cons (by kernel_rfl) (RdT.str Tryd.underlying9) (RdFs.one (by kernel_rfl) (RdT.slice (B := 16) Tryd.underlying43 (by kernel_rfl) (by decide) (by kernel_rfl) (RdT.str Tryd.underlying9)))))) rfl (by obtain ⟨a, l, c, rfl⟩ := okWide_slice Tryd.underlying22 (hval 0 22 v0 rfl rfl); rfl) h0 (fun n hn => by have z := List.all_eq_true.1 hsz _ (DataW.weights_mem_each (j := 0) rfl rfl n hn); exact (of_decide_eq_true z : n ≤ reachBytes))
  have k1 := h1
  have lt1 : ∀ x ∈ p1, x.block < W.heap.size := by obtain ⟨m, hm⟩ := k1; exact DataW.trod_lt m _ _ _ hm
  obtain ⟨x1, hx1, w1⟩ := RdT.arg (RdT.str Tryd.underlying9) rfl (by obtain ⟨a, rfl⟩ := okWide_string Tryd.underlying9 (hval 1 9 v1 rfl rfl); rfl) h1 (fun n hn => by have z := List.all_eq_true.1 hsz _ (DataW.weights_mem_each (j := 1) rfl rfl n hn); exact (of_decide_eq_true z : n ≤ reachBytes))
  clear hA0 hval0 hsz0 hsz
  have hbk : Rows.uptoBulkAll ([d0, d1] ++ []) ≤ 1048576 := of_decide_eq_true hk
  simp only [List.append_nil, Rows.uptoBulkAll] at hbk
  have b0 := RdB.arg (RdB.slice Tryd.underlying22 (by kernel_rfl) (RdB.agg (l := [(0, 9), (1, 43)]) Tryd.underlying70 rfl (RdBs.cons (by kernel_rfl) (RdB.str Tryd.underlying9) (RdBs.one (by kernel_rfl) (RdB.slice Tryd.underlying43 (by kernel_rfl) (RdB.str Tryd.underlying9)))))) k0 hx0 (by obtain ⟨a, l, c, rfl⟩ := okWide_slice Tryd.underlying22 (hval 0 22 v0 rfl rfl); rfl)
  have b1 := RdB.arg (RdB.str Tryd.underlying9) k1 hx1 (by obtain ⟨a, rfl⟩ := okWide_string Tryd.underlying9 (hval 1 9 v1 rfl rfl); rfl)
  obtain ⟨k, h⟩ := ConfigReadsMatchSpecUptoPure x0 x1 w0 w1 (by omega)
  have hI : JS.I W := Go.Proofs.cell_of_shapedOpen_int (zero := #[.int .i64 0]) (t := 3) hsh (of_decide_eq_true (by kernel_rfl)) (by kernel_rfl) rfl (by kernel_rfl) (by kernel_rfl) Tryd.underlying3
  refine (law_end (J := JS) (ps := [.val (.slice (.agg (.pair (.str) (.slice (.str))))), .val (.str)]) (S := S9) (vals := [v0, v1]) (x := (x0, x1, ())) ok9 hI (by obtain ⟨m, hm⟩ := hI; rcases Nat.lt_or_ge 0 W.heap.size with h | h; exact h; simp [World.cell?, Array.getElem?_eq_none h] at hm) rfl ⟨v0, _, rfl, hx0, v1, _, rfl, hx1, rfl⟩ h).mono fun e W' ⟨he, bel⟩ => ?_
  subst he
  exact ⟨_, rfl, _, _, _, [], _, [], hW', trodAll_mk1 (shut_bool Tryd.underlying4 _), (trodAll_cons_mk (Below.trod laidOut (by kernel_rfl) (of_decide_eq_true (by kernel_rfl)) k0 bel lt0) (trodAll_cons_mk (Below.trod laidOut (by kernel_rfl) (of_decide_eq_true (by kernel_rfl)) k1 bel lt1) trodAll_mk0)), rfl, bel.frame _, fun h => by cases h⟩
theorem reads (os : Os) {H : Type} (enc : TypeId × Value → H) : ∃ places, DataW.whole enc Tryd.prog ((World.laidAll Tryd.prog os Rows.configReadsMatchSpecUptoRow.laid).forCall (fun _ _ => 0) ⟨#[], #[.slice none 0 0, .string ByteArray.empty], []⟩).memory Tryd.f9.params.toList Rows.configReadsMatchSpecSpec.vars false #[.slice none 0 0, .string ByteArray.empty].toList 8 = some ([.nil, .lit (.string [])], [], places) := ⟨[], by kernel_rfl⟩
set_option maxRecDepth 100000 in
theorem liftedUpto (os : Os) (started : os.Started) (H : Type) (enc : TypeId × Value → H) (F : Stop.Interp) :
    ReturnsInHanded {} Tryd.checked os 9 .any ((Rows.OpenSpec.upto Rows.configReadsMatchSpecSpec).preRow enc Tryd.prog Tryd.f9 Rows.configReadsMatchSpecUptoRow.domain false Rows.configReadsMatchSpecUptoRow.laid) (((Rows.OpenSpec.upto Rows.configReadsMatchSpecSpec).at F).post enc Tryd.prog Tryd.f9 false true false false) := by
  obtain ⟨places, hx⟩ := reads os enc
  refine returnsInHanded_of_row (C := Tryd.checked) (s := Rows.OpenSpec.upto Rows.configReadsMatchSpecSpec) own started (by kernel_rfl) Tryd.func9
    (Door.witness_row (enc := enc) (C := Tryd.checked) false (World.laidAll Tryd.prog os Rows.configReadsMatchSpecUptoRow.laid) #[.slice none 0 0, .string ByteArray.empty] (World.laidAll_os _ _ _) (World.shaped_of_ZipB (by kernel_rfl) (by kernel_rfl)) (by kernel_rfl)
      (OpenSpec.preRow_of_cond 8 hx (by kernel_rfl) (fun k hk => by cases hk; kernel_rfl) (by kernel_rfl) (by rw [MakeChecks.laidMetH_plain _ _ _ (by kernel_rfl)]; exact laidMet_laidAll _ (by kernel_rfl) (by kernel_rfl)))) ?_
  intro W base args ds gs before hval hW _ hcond hsz _ hsh _
  exact contract H enc W base args ds gs before hval hW (hcond _ rfl) hsz hsh
theorem over : Rows.configReadsMatchSpecUptoRow.holds Tryd.pinned (Rows.OpenSpec.upto Rows.configReadsMatchSpecSpec) :=
  OpenClaim.holds_of_cond 9 Tryd.f9 rfl rfl rfl rfl rfl rfl rfl ⟨rfl, rfl, rfl, rfl, rfl⟩ rfl rfl rfl rfl rfl (by kernel_rfl) Tryd.func9 (by kernel_rfl)
    (of_decide_eq_true (by kernel_rfl)) (by unfold Func.isWrapper; first | (rw [if_pos (by decide +kernel)]; kernel_rfl) | (rw [if_neg (by decide +kernel)]; exact ⟨rfl, rfl⟩))
    (fun os started H enc _ F => by rw [OpenClaim.pre_eq_preRow]; exact liftedUpto os started H enc F)
theorem proved : Rows.ConfigReadsMatchSpecUptoSaid := over
theorem card : Rows.ConfigReadsMatchSpecUptoCardSaid :=
  Claim7.holds_tied_plain_at .later [] [.data, .pinned] true (true, "e5048704ea61bf10d2f1fe4837d622f5bbb7ae0a11d3d80f569986733d447c2e") false proved (fun _ h => by cases h) (by kernel_rfl) (fun _ h => by cases h) configReadsMatchSpecUpto_row_tie rfl ⟨rfl, rfl⟩ (by kernel_rfl) rfl
    (fun f fn hf hfn => by
      obtain rfl : f = 9 := Option.some.inj ((show Tryd.prog.funcNamed "smithyard/smithyardlaw3.ConfigReadsMatchSpec" = some 9 by kernel_rfl).symm.trans hf) |>.symm
      obtain rfl : fn = Tryd.f9 := (Option.some.inj (Tryd.func9.symm.trans hfn)).symm
      exact ⟨by kernel_rfl, fun j t ht => by
        rw [Tryd.params9] at ht
        have hm : t ∈ [22, 9] := by simpa using Array.mem_of_getElem? ht
        have hall : ([22, 9].all fun u => !Tryd.prog.wantsStandIn u) = true := by kernel_rfl
        exact (show Tryd.prog.wantsStandIn t = false by simpa using List.all_eq_true.1 hall t hm)⟩)
    (by kernel_rfl)
#print axioms card
#print axioms proved
end Go.Proofs.YtklmkonpilkfnaaDoor.configReadsMatchSpec
namespace Go.Proofs.YtklmkonpilkfnaaDoor
/-- The row, under a short name, for the claim. -/
theorem configReadsMatchSpec_holds : Rows.ConfigReadsMatchSpecUptoCardSaid := configReadsMatchSpec.card
end Go.Proofs.YtklmkonpilkfnaaDoor
