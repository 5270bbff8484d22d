-- Written by this session's program (wip/ev/evrow.py): the row of the law ConfigDependsIsEnough, out of its pure statement and the evaluator's functions. Lean checks it.
import Derived.Test.YtonfimidgbppeaaGreatDoorCards
import Derived.Test.YtonfimidgbppeaaGreatDoorTie
import Derived.Test.YtonfimidgbppeaaGreatDoorDoor
import Derived.Test.YtonfimidgbppeaaGreatDoorRows
import Derived.Test.YtonfimidgbppeaaGreatDoorEv6
import Derived.Test.YtonfimidgbppeaaGreatDoorFPlb
import Derived.Test.YtonfimidgbppeaaGreatDoorPlPlb
import Derived.WalkKit
import Derived.ProofKit
import Derived.OpenShut
import Derived.ShutString
import Derived.ChangeOld
import Derived.Below
import Derived.Carry
import Derived.SizedLaws
namespace Go.Proofs.YtonfimidgbppeaaGreatDoor.configDependsIsEnough
open Go.ChangeShapes Go.WideShapes Go.ChangeAt Go.RowKit Go.Proofs.YtonfimidgbppeaaGreatDoor.Ev
set_option linter.unusedVariables false
theorem own : ownKnob Tryz.prog.godebug = none := by kernel_rfl
theorem laidOut : laidOutB Tryz.prog = true := by kernel_rfl
set_option maxRecDepth 100000 in
theorem lifted (os : Os) (started : os.Started) (H : Type) (enc : TypeId × Value → H) :
    ReturnsInHanded {} Tryz.checked os 5 .any (fun w args => (Rows.configDependsIsEnoughSpec.pre enc Tryz.prog Tryz.f5 [] false w args ∧ laidMetH Tryz.prog Rows.configDependsIsEnoughRow.laid w) ∧ sizedMet enc Tryz.prog Tryz.f5 (OpenSpec.ofChange Rows.configDependsIsEnoughSpec) false w args) (Rows.configDependsIsEnoughSpec.post enc Tryz.prog Tryz.f5 false true false false) := by
  refine Door.handed_and_shaped (C := Tryz.checked) (X := fun w _ => laidMetH Tryz.prog Rows.configDependsIsEnoughRow.laid w) (fun _ _ _ hh h => h.of_heap hh) own started (by kernel_rfl) Tryz.func5
    (ChangeSpec.witness_shaped (enc := enc) (C := Tryz.checked) (os := os) (X := fun w _ => laidMetH Tryz.prog Rows.configDependsIsEnoughRow.laid w) false (World.laidAll Tryz.prog os Rows.configDependsIsEnoughRow.laid) #[.agg #[.slice none 0 0, .slice none 0 0, .slice none 0 0, .slice none 0 0, .slice none 0 0], .agg #[.string ByteArray.empty, .string ByteArray.empty, .slice none 0 0], .slice none 0 0, .slice none 0 0, .agg #[.string ByteArray.empty, .slice none 0 0]] 8 (World.laidAll_os _ _ _)
      (World.shaped_of_ZipB (by kernel_rfl) (by kernel_rfl)) (by kernel_rfl) (by kernel_rfl) (by kernel_rfl)
      (by rw [MakeChecks.laidMetH_plain _ _ _ (by kernel_rfl)]; exact laidMet_laidAll _ (by kernel_rfl) (by kernel_rfl))) ?_
  intro W base args ds gs before hval0 hW hcnd hsz0 _ hsh _
  have hsz : (DataW.weightsEach Tryz.prog (Tryz.f5.params.toList ++ Rows.configDependsIsEnoughSpec.plain.varTypes Tryz.prog) (ds ++ gs)).all (· ≤ reachBytes) = true := hsz0
  have hval : ∀ (j : Nat) t v, Tryz.f5.params[j]? = some t → args[j]? = some v → Value.okWide Tryz.prog W .any base t v := hval0
  have hW' := hW
  obtain ⟨p, q, hA0, hV, rfl, hfz, hnd⟩ := hW
  have hA : DataW.TrodAll enc Tryz.prog W 0 (fun _ => true) true Tryz.f5.params.toList args.toList ds p := hA0
  rw [Tryz.params5] at hA hval hsz
  obtain ⟨v0, vs0, d0, ds0, p0, q0, hargs, rfl, rfl, h0, r0⟩ := trodAll_cons hA
  obtain ⟨v1, vs1, d1, ds1, p1, q1, rfl, rfl, rfl, h1, r1⟩ := trodAll_cons r0
  obtain ⟨v2, vs2, d2, ds2, p2, q2, rfl, rfl, rfl, h2, r2⟩ := trodAll_cons r1
  obtain ⟨v3, vs3, d3, ds3, p3, q3, rfl, rfl, rfl, h3, r3⟩ := trodAll_cons r2
  obtain ⟨v4, vs4, d4, ds4, p4, q4, rfl, rfl, rfl, h4, r4⟩ := trodAll_cons r3
  obtain ⟨rfl, rfl, rfl⟩ := trodAll_nil r4
  obtain rfl : args = #[v0, v1, v2, v3, v4] := by cases args; simp_all
  obtain ⟨rfl, rfl⟩ := trodVars_none hV
  have k0 := h0
  have lt0 : ∀ x ∈ p0, x.block < W.heap.size := by obtain ⟨m, hm⟩ := k0; exact DataW.trod_lt m _ _ _ hm
  obtain ⟨x0, hx0, w0⟩ := RdT.arg (RdT.agg (l := [(0, 22), (1, 23), (2, 24), (3, 25), (4, 26)]) Tryz.underlying28 rfl (by kernel_rfl) (RdFs.cons (by kernel_rfl) (RdT.slice (B := 40) Tryz.underlying22 (by kernel_rfl) (by decide) (by kernel_rfl) (RdT.agg (l := [(0, 9), (1, 29)]) Tryz.underlying92 rfl (by kernel_rfl) (RdFs.cons (by kernel_rfl) (RdT.str Tryz.underlying9) (RdFs.one (by kernel_rfl) (RdT.slice (B := 16) Tryz.underlying29 (by kernel_rfl) (by decide) (by kernel_rfl) (RdT.str Tryz.underlying9)))))) (RdFs.cons (by kernel_rfl) (RdT.slice (B := 64) Tryz.underlying23 (by kernel_rfl) (by decide) (by kernel_rfl) (RdT.agg (l := [(0, 9), (1, 33), (2, 33)]) Tryz.underlying72 rfl (by kernel_rfl) (RdFs.cons (by kernel_rfl) (RdT.str Tryz.underlying9) (RdFs.cons (by kernel_rfl) (RdT.slice (B := 32) Tryz.underlying33 (by kernel_rfl) (by decide) (by kernel_rfl) (RdT.agg (l := [(0, 9), (1, 9)]) Tryz.underlying39 rfl (by kernel_rfl) (RdFs.cons (by kernel_rfl) (RdT.str Tryz.underlying9) (RdFs.one (by kernel_rfl) (RdT.str Tryz.underlying9))))) (RdFs.one (by kernel_rfl) (RdT.slice (B := 32) Tryz.underlying33 (by kernel_rfl) (by decide) (by kernel_rfl) (RdT.agg (l := [(0, 9), (1, 9)]) Tryz.underlying39 rfl (by kernel_rfl) (RdFs.cons (by kernel_rfl) (RdT.str Tryz.underlying9) (RdFs.one (by kernel_rfl) (RdT.str Tryz.underlying9)))))))))) (RdFs.cons (by kernel_rfl) (RdT.slice (B := 40) Tryz.underlying24 (by kernel_rfl) (by decide) (by kernel_rfl) (RdT.agg (l := [(0, 9), (1, 33)]) Tryz.underlying35 rfl (by kernel_rfl) (RdFs.cons (by kernel_rfl) (RdT.str Tryz.underlying9) (RdFs.one (by kernel_rfl) (RdT.slice (B := 32) Tryz.underlying33 (by kernel_rfl) (by decide) (by kernel_rfl) (RdT.agg (l := [(0, 9), (1, 9)]) Tryz.underlying39 rfl (by kernel_rfl) (RdFs.cons (by kernel_rfl) (RdT.str Tryz.underlying9) (RdFs.one (by kernel_rfl) (RdT.str Tryz.underlying9))))))))) (RdFs.cons (by kernel_rfl) (RdT.slice (B := 80) Tryz.underlying25 (by kernel_rfl) (by decide) (by kernel_rfl) (RdT.agg (l := [(0, 9), (1, 9), (2, 33), (3, 33)]) Tryz.underlying75 rfl (by kernel_rfl) (RdFs.cons (by kernel_rfl) (RdT.str Tryz.underlying9) (RdFs.cons (by kernel_rfl) (RdT.str Tryz.underlying9) (RdFs.cons (by kernel_rfl) (RdT.slice (B := 32) Tryz.underlying33 (by kernel_rfl) (by decide) (by kernel_rfl) (RdT.agg (l := [(0, 9), (1, 9)]) Tryz.underlying39 rfl (by kernel_rfl) (RdFs.cons (by kernel_rfl) (RdT.str Tryz.underlying9) (RdFs.one (by kernel_rfl) (RdT.str Tryz.underlying9))))) (RdFs.one (by kernel_rfl) (RdT.slice (B := 32) Tryz.underlying33 (by kernel_rfl) (by decide) (by kernel_rfl) (RdT.agg (l := [(0, 9), (1, 9)]) Tryz.underlying39 rfl (by kernel_rfl) (RdFs.cons (by kernel_rfl) (RdT.str Tryz.underlying9) (RdFs.one (by kernel_rfl) (RdT.str Tryz.underlying9))))))))))) (RdFs.one (by kernel_rfl) (RdT.slice (B := 64) Tryz.underlying26 (by kernel_rfl) (by decide) (by kernel_rfl) (RdT.agg (l := [(0, 9), (1, 33), (2, 29)]) Tryz.underlying77 rfl (by kernel_rfl) (RdFs.cons (by kernel_rfl) (RdT.str Tryz.underlying9) (RdFs.cons (by kernel_rfl) (RdT.slice (B := 32) Tryz.underlying33 (by kernel_rfl) (by decide) (by kernel_rfl) (RdT.agg (l := [(0, 9), (1, 9)]) Tryz.underlying39 rfl (by kernel_rfl) (RdFs.cons (by kernel_rfl) (RdT.str Tryz.underlying9) (RdFs.one (by kernel_rfl) (RdT.str Tryz.underlying9))))) (RdFs.one (by kernel_rfl) (RdT.slice (B := 16) Tryz.underlying29 (by kernel_rfl) (by decide) (by kernel_rfl) (RdT.str Tryz.underlying9))))))))))))) rfl (by obtain ⟨a, rfl, _⟩ := okWide_struct Tryz.underlying28 (hval 0 28 v0 rfl rfl); rfl) h0 (fun n hn => by have z := List.all_eq_true.1 hsz _ (DataW.weights_mem_each (j := 0) rfl rfl n hn); exact (of_decide_eq_true z : n ≤ reachBytes))
  have k1 := h1
  have lt1 : ∀ x ∈ p1, x.block < W.heap.size := by obtain ⟨m, hm⟩ := k1; exact DataW.trod_lt m _ _ _ hm
  obtain ⟨x1, hx1, w1⟩ := RdT.arg (RdT.agg (l := [(0, 9), (1, 9), (2, 52)]) Tryz.underlying54 rfl (by kernel_rfl) (RdFs.cons (by kernel_rfl) (RdT.str Tryz.underlying9) (RdFs.cons (by kernel_rfl) (RdT.str Tryz.underlying9) (RdFs.one (by kernel_rfl) (RdT.slice (B := 96) Tryz.underlying52 (by kernel_rfl) (by decide) (by kernel_rfl) (RdT.agg (l := [(0, 9), (1, 32)]) Tryz.underlying94 rfl (by kernel_rfl) (RdFs.cons (by kernel_rfl) (RdT.str Tryz.underlying9) (RdFs.one (by kernel_rfl) (RdT.agg (l := [(0, 3), (1, 9), (2, 3), (3, 29), (4, 30)]) Tryz.underlying32 rfl (by kernel_rfl) (RdFs.cons (by kernel_rfl) (RdT.int Tryz.underlying3) (RdFs.cons (by kernel_rfl) (RdT.str Tryz.underlying9) (RdFs.cons (by kernel_rfl) (RdT.int Tryz.underlying3) (RdFs.cons (by kernel_rfl) (RdT.slice (B := 16) Tryz.underlying29 (by kernel_rfl) (by decide) (by kernel_rfl) (RdT.str Tryz.underlying9)) (RdFs.one (by kernel_rfl) (RdT.slice (B := 96) Tryz.underlying30 (by kernel_rfl) (by decide) (by kernel_rfl) (RdT.agg (l := [(0, 9), (1, 32)]) Tryz.underlying86 rfl (by kernel_rfl) (RdFs.cons (by kernel_rfl) (RdT.str Tryz.underlying9) (RdFs.one (by kernel_rfl) (RdT.agg (l := [(0, 3), (1, 9), (2, 3), (3, 29), (4, 30)]) Tryz.underlying32 rfl (by kernel_rfl) (RdFs.cons (by kernel_rfl) (RdT.int Tryz.underlying3) (RdFs.cons (by kernel_rfl) (RdT.str Tryz.underlying9) (RdFs.cons (by kernel_rfl) (RdT.int Tryz.underlying3) (RdFs.cons (by kernel_rfl) (RdT.slice (B := 16) Tryz.underlying29 (by kernel_rfl) (by decide) (by kernel_rfl) (RdT.str Tryz.underlying9)) (RdFs.one (by kernel_rfl) (RdT.oslice Tryz.underlying30))))))))))))))))))))))))) rfl (by obtain ⟨a, rfl, _⟩ := okWide_struct Tryz.underlying54 (hval 1 54 v1 rfl rfl); rfl) h1 (fun n hn => by have z := List.all_eq_true.1 hsz _ (DataW.weights_mem_each (j := 1) rfl rfl n hn); exact (of_decide_eq_true z : n ≤ reachBytes))
  have k2 := h2
  have lt2 : ∀ x ∈ p2, x.block < W.heap.size := by obtain ⟨m, hm⟩ := k2; exact DataW.trod_lt m _ _ _ hm
  obtain ⟨x2, hx2, w2⟩ := RdT.arg (RdT.slice (B := 32) Tryz.underlying33 (by kernel_rfl) (by decide) (by kernel_rfl) (RdT.agg (l := [(0, 9), (1, 9)]) Tryz.underlying39 rfl (by kernel_rfl) (RdFs.cons (by kernel_rfl) (RdT.str Tryz.underlying9) (RdFs.one (by kernel_rfl) (RdT.str Tryz.underlying9))))) rfl (by obtain ⟨a, l, c, rfl⟩ := okWide_slice Tryz.underlying33 (hval 2 33 v2 rfl rfl); rfl) h2 (fun n hn => by have z := List.all_eq_true.1 hsz _ (DataW.weights_mem_each (j := 2) rfl rfl n hn); exact (of_decide_eq_true z : n ≤ reachBytes))
  have k3 := h3
  have lt3 : ∀ x ∈ p3, x.block < W.heap.size := by obtain ⟨m, hm⟩ := k3; exact DataW.trod_lt m _ _ _ hm
  obtain ⟨x3, hx3, w3⟩ := RdT.arg (RdT.slice (B := 32) Tryz.underlying33 (by kernel_rfl) (by decide) (by kernel_rfl) (RdT.agg (l := [(0, 9), (1, 9)]) Tryz.underlying39 rfl (by kernel_rfl) (RdFs.cons (by kernel_rfl) (RdT.str Tryz.underlying9) (RdFs.one (by kernel_rfl) (RdT.str Tryz.underlying9))))) rfl (by obtain ⟨a, l, c, rfl⟩ := okWide_slice Tryz.underlying33 (hval 3 33 v3 rfl rfl); rfl) h3 (fun n hn => by have z := List.all_eq_true.1 hsz _ (DataW.weights_mem_each (j := 3) rfl rfl n hn); exact (of_decide_eq_true z : n ≤ reachBytes))
  have k4 := h4
  have lt4 : ∀ x ∈ p4, x.block < W.heap.size := by obtain ⟨m, hm⟩ := k4; exact DataW.trod_lt m _ _ _ hm
  obtain ⟨x4, hx4, w4⟩ := RdT.arg (RdT.agg (l := [(0, 9), (1, 33)]) Tryz.underlying35 rfl (by kernel_rfl) (RdFs.cons (by kernel_rfl) (RdT.str Tryz.underlying9) (RdFs.one (by kernel_rfl) (RdT.slice (B := 32) Tryz.underlying33 (by kernel_rfl) (by decide) (by kernel_rfl) (RdT.agg (l := [(0, 9), (1, 9)]) Tryz.underlying39 rfl (by kernel_rfl) (RdFs.cons (by kernel_rfl) (RdT.str Tryz.underlying9) (RdFs.one (by kernel_rfl) (RdT.str Tryz.underlying9)))))))) rfl (by obtain ⟨a, rfl, _⟩ := okWide_struct Tryz.underlying35 (hval 4 35 v4 rfl rfl); rfl) h4 (fun n hn => by have z := List.all_eq_true.1 hsz _ (DataW.weights_mem_each (j := 4) rfl rfl n hn); exact (of_decide_eq_true z : n ≤ reachBytes))
  clear hA0 hval0 hsz0 hsz
  obtain ⟨k, h⟩ := ConfigDependsIsEnoughPure x0 x1 x2 x3 x4 w0 w1 w2 w3 w4
  have hI : JS.I W := Go.Proofs.cell_of_shapedOpen_int (zero := #[.int .i64 0]) (t := 3) hsh (of_decide_eq_true (by kernel_rfl)) (by kernel_rfl) rfl (by kernel_rfl) (by kernel_rfl) Tryz.underlying3
  refine (law_end (J := JS) (ps := [.val (.agg (.pair (.slice (.agg (.pair (.str) (.slice (.str))))) (.pair (.slice (.agg (.pair (.str) (.pair (.slice (.agg (.pair (.str) (.str)))) (.slice (.agg (.pair (.str) (.str)))))))) (.pair (.slice (.agg (.pair (.str) (.slice (.agg (.pair (.str) (.str))))))) (.pair (.slice (.agg (.pair (.str) (.pair (.str) (.pair (.slice (.agg (.pair (.str) (.str)))) (.slice (.agg (.pair (.str) (.str))))))))) (.slice (.agg (.pair (.str) (.pair (.slice (.agg (.pair (.str) (.str)))) (.slice (.str))))))))))), .val (.agg (.pair (.str) (.pair (.str) (.slice (.agg (.pair (.str) (.agg (.pair (.int .i64) (.pair (.str) (.pair (.int .i64) (.pair (.slice (.str)) (.slice (.agg (.pair (.str) (.agg (.pair (.int .i64) (.pair (.str) (.pair (.int .i64) (.pair (.slice (.str)) (.oslice 0)))))))))))))))))))), .val (.slice (.agg (.pair (.str) (.str)))), .val (.slice (.agg (.pair (.str) (.str)))), .val (.agg (.pair (.str) (.slice (.agg (.pair (.str) (.str))))))]) (S := S5) (vals := [v0, v1, v2, v3, v4]) (x := (x0, x1, x2, x3, x4, ())) ok5 hI (by obtain ⟨m, hm⟩ := hI; rcases Nat.lt_or_ge 0 W.heap.size with h | h; exact h; simp [World.cell?, Array.getElem?_eq_none h] at hm) rfl ⟨v0, _, rfl, hx0, v1, _, rfl, hx1, v2, _, rfl, hx2, v3, _, rfl, hx3, v4, _, rfl, hx4, rfl⟩ h).mono fun e W' ⟨he, bel⟩ => ?_
  subst he
  exact ⟨_, rfl, _, _, _, [], _, [], hW', trodAll_mk1 (shut_bool Tryz.underlying4 _), (trodAll_cons_mk (Below.trod laidOut (by kernel_rfl) (of_decide_eq_true (by kernel_rfl)) k0 bel lt0) (trodAll_cons_mk (Below.trod laidOut (by kernel_rfl) (of_decide_eq_true (by kernel_rfl)) k1 bel lt1) (trodAll_cons_mk (Below.trod laidOut (by kernel_rfl) (of_decide_eq_true (by kernel_rfl)) k2 bel lt2) (trodAll_cons_mk (Below.trod laidOut (by kernel_rfl) (of_decide_eq_true (by kernel_rfl)) k3 bel lt3) (trodAll_cons_mk (Below.trod laidOut (by kernel_rfl) (of_decide_eq_true (by kernel_rfl)) k4 bel lt4) trodAll_mk0))))), rfl, bel.frame _, fun h => by cases h⟩
theorem over : Rows.configDependsIsEnoughRow.holds Tryz.pinned (OpenSpec.ofChange Rows.configDependsIsEnoughSpec) :=
  OpenClaim.holds_of_wide 5 Tryz.f5 rfl rfl rfl rfl rfl rfl rfl ⟨rfl, rfl, rfl, rfl, rfl⟩ rfl rfl rfl rfl rfl (by kernel_rfl) Tryz.func5 (by kernel_rfl)
    (of_decide_eq_true (by kernel_rfl)) (by unfold Func.isWrapper; first | (rw [if_pos (by decide +kernel)]; kernel_rfl) | (rw [if_neg (by decide +kernel)]; exact ⟨rfl, rfl⟩))
    (fun os started H enc _ => lifted os started H enc)
theorem proved : Rows.ConfigDependsIsEnoughSaid := over
theorem card : Rows.ConfigDependsIsEnoughCardSaid :=
  Claim7.holds_tied_plain_at .later [] [.data, .pinned] true (true, "91e2c33de852b940bd828f7907525ba2f641542631243761c003a931ff1cc0e4") false proved (fun _ h => by cases h) (by kernel_rfl) (fun _ h => by cases h) configDependsIsEnough_row_tie rfl ⟨rfl, rfl⟩ (by kernel_rfl) rfl
    (fun f fn hf hfn => by
      obtain rfl : f = 5 := Option.some.inj ((show Tryz.prog.funcNamed "smithyard/smithyardlaw3.ConfigDependsIsEnough" = some 5 by kernel_rfl).symm.trans hf) |>.symm
      obtain rfl : fn = Tryz.f5 := (Option.some.inj (Tryz.func5.symm.trans hfn)).symm
      exact ⟨by kernel_rfl, fun j t ht => by
        rw [Tryz.params5] at ht
        have hm : t ∈ [28, 54, 33, 33, 35] := by simpa using Array.mem_of_getElem? ht
        have hall : ([28, 54, 33, 33, 35].all fun u => !Tryz.prog.wantsStandIn u) = true := by kernel_rfl
        exact (show Tryz.prog.wantsStandIn t = false by simpa using List.all_eq_true.1 hall t hm)⟩)
    (by kernel_rfl)
#print axioms card
#print axioms proved
end Go.Proofs.YtonfimidgbppeaaGreatDoor.configDependsIsEnough
namespace Go.Proofs.YtonfimidgbppeaaGreatDoor
/-- The row, under a short name, for the claim. -/
theorem configDependsIsEnough_holds : Rows.ConfigDependsIsEnoughCardSaid := configDependsIsEnough.card
end Go.Proofs.YtonfimidgbppeaaGreatDoor
