-- Written by this session's program (wip/ev/evrow.py): the row of the law ConfigToolsFewerKinds, out of its pure statement and the evaluator's functions. Lean checks it.
import Derived.Test.YtocgdpnealaoeaaDoorCards
import Derived.Test.YtocgdpnealaoeaaDoorTie
import Derived.Test.YtocgdpnealaoeaaDoorDoor
import Derived.Test.YtocgdpnealaoeaaDoorRows
import Derived.Test.YtocgdpnealaoeaaDoorEv6
import Derived.Test.YtocgdpnealaoeaaDoorFTfk
import Derived.Test.YtocgdpnealaoeaaDoorPlTfk
import Derived.WalkKit
import Derived.ProofKit
import Derived.OpenShut
import Derived.ShutString
import Derived.ChangeOld
import Derived.Below
import Derived.Carry
import Derived.SizedLaws
namespace Go.Proofs.YtocgdpnealaoeaaDoor.configToolsFewerKinds
open Go.ChangeShapes Go.WideShapes Go.ChangeAt Go.RowKit Go.Proofs.YtocgdpnealaoeaaDoor.Ev
set_option linter.unusedVariables false
theorem own : ownKnob Tryd.prog.godebug = none := by kernel_rfl
theorem laidOut : laidOutB Tryd.prog = true := by kernel_rfl
set_option maxRecDepth 100000 in
theorem lifted (os : Os) (started : os.Started) (H : Type) (enc : TypeId × Value → H) :
    ReturnsInHanded {} Tryd.checked os 4 .any (fun w args => (Rows.configToolsFewerKindsSpec.pre enc Tryd.prog Tryd.f4 [] false w args ∧ laidMetH Tryd.prog Rows.configToolsFewerKindsRow.laid w) ∧ sizedMet enc Tryd.prog Tryd.f4 (OpenSpec.ofChange Rows.configToolsFewerKindsSpec) false w args) (Rows.configToolsFewerKindsSpec.post enc Tryd.prog Tryd.f4 false true false false) := by
  refine Door.handed_and_shaped (C := Tryd.checked) (X := fun w _ => laidMetH Tryd.prog Rows.configToolsFewerKindsRow.laid w) (fun _ _ _ hh h => h.of_heap hh) own started (by kernel_rfl) Tryd.func4
    (ChangeSpec.witness_shaped (enc := enc) (C := Tryd.checked) (os := os) (X := fun w _ => laidMetH Tryd.prog Rows.configToolsFewerKindsRow.laid w) false (World.laidAll Tryd.prog os Rows.configToolsFewerKindsRow.laid) #[.agg #[.slice none 0 0, .slice none 0 0, .slice none 0 0, .slice none 0 0, .slice none 0 0], .slice none 0 0, .agg #[.string ByteArray.empty, .slice none 0 0], .int .i64 0] 8 (World.laidAll_os _ _ _)
      (World.shaped_of_ZipB (by kernel_rfl) (by kernel_rfl)) (by kernel_rfl) (by kernel_rfl) (by kernel_rfl)
      (by rw [MakeChecks.laidMetH_plain _ _ _ (by kernel_rfl)]; exact laidMet_laidAll _ (by kernel_rfl) (by kernel_rfl))) ?_
  intro W base args ds gs before hval0 hW hcnd hsz0 _ hsh _
  have hsz : (DataW.weightsEach Tryd.prog (Tryd.f4.params.toList ++ Rows.configToolsFewerKindsSpec.plain.varTypes Tryd.prog) (ds ++ gs)).all (· ≤ reachBytes) = true := hsz0
  have hval : ∀ (j : Nat) t v, Tryd.f4.params[j]? = some t → args[j]? = some v → Value.okWide Tryd.prog W .any base t v := hval0
  have hW' := hW
  obtain ⟨p, q, hA0, hV, rfl, hfz, hnd⟩ := hW
  have hA : DataW.TrodAll enc Tryd.prog W 0 (fun _ => true) true Tryd.f4.params.toList args.toList ds p := hA0
  rw [Tryd.params4] at hA hval hsz
  obtain ⟨v0, vs0, d0, ds0, p0, q0, hargs, rfl, rfl, h0, r0⟩ := trodAll_cons hA
  obtain ⟨v1, vs1, d1, ds1, p1, q1, rfl, rfl, rfl, h1, r1⟩ := trodAll_cons r0
  obtain ⟨v2, vs2, d2, ds2, p2, q2, rfl, rfl, rfl, h2, r2⟩ := trodAll_cons r1
  obtain ⟨v3, vs3, d3, ds3, p3, q3, rfl, rfl, rfl, h3, r3⟩ := trodAll_cons r2
  obtain ⟨rfl, rfl, rfl⟩ := trodAll_nil r3
  obtain rfl : args = #[v0, v1, v2, v3] := by cases args; simp_all
  obtain ⟨rfl, rfl⟩ := trodVars_none hV
  have k0 := h0
  have lt0 : ∀ x ∈ p0, x.block < W.heap.size := by obtain ⟨m, hm⟩ := k0; exact DataW.trod_lt m _ _ _ hm
  obtain ⟨x0, hx0, w0⟩ := RdT.arg (RdT.agg (l := [(0, 33), (1, 34), (2, 35), (3, 36), (4, 37)]) Tryd.underlying39 rfl (by kernel_rfl) (RdFs.cons (by kernel_rfl) (RdT.slice (B := 40) Tryd.underlying33 (by kernel_rfl) (by decide) (by kernel_rfl) (RdT.agg (l := [(0, 9), (1, 23)]) Tryd.underlying68 rfl (by kernel_rfl) (RdFs.cons (by kernel_rfl) (RdT.str Tryd.underlying9) (RdFs.one (by kernel_rfl) (RdT.slice (B := 16) Tryd.underlying23 (by kernel_rfl) (by decide) (by kernel_rfl) (RdT.str Tryd.underlying9)))))) (RdFs.cons (by kernel_rfl) (RdT.slice (B := 64) Tryd.underlying34 (by kernel_rfl) (by decide) (by kernel_rfl) (RdT.agg (l := [(0, 9), (1, 40), (2, 40)]) Tryd.underlying160 rfl (by kernel_rfl) (RdFs.cons (by kernel_rfl) (RdT.str Tryd.underlying9) (RdFs.cons (by kernel_rfl) (RdT.slice (B := 32) Tryd.underlying40 (by kernel_rfl) (by decide) (by kernel_rfl) (RdT.agg (l := [(0, 9), (1, 9)]) Tryd.underlying70 rfl (by kernel_rfl) (RdFs.cons (by kernel_rfl) (RdT.str Tryd.underlying9) (RdFs.one (by kernel_rfl) (RdT.str Tryd.underlying9))))) (RdFs.one (by kernel_rfl) (RdT.slice (B := 32) Tryd.underlying40 (by kernel_rfl) (by decide) (by kernel_rfl) (RdT.agg (l := [(0, 9), (1, 9)]) Tryd.underlying70 rfl (by kernel_rfl) (RdFs.cons (by kernel_rfl) (RdT.str Tryd.underlying9) (RdFs.one (by kernel_rfl) (RdT.str Tryd.underlying9)))))))))) (RdFs.cons (by kernel_rfl) (RdT.slice (B := 40) Tryd.underlying35 (by kernel_rfl) (by decide) (by kernel_rfl) (RdT.agg (l := [(0, 9), (1, 40)]) Tryd.underlying42 rfl (by kernel_rfl) (RdFs.cons (by kernel_rfl) (RdT.str Tryd.underlying9) (RdFs.one (by kernel_rfl) (RdT.slice (B := 32) Tryd.underlying40 (by kernel_rfl) (by decide) (by kernel_rfl) (RdT.agg (l := [(0, 9), (1, 9)]) Tryd.underlying70 rfl (by kernel_rfl) (RdFs.cons (by kernel_rfl) (RdT.str Tryd.underlying9) (RdFs.one (by kernel_rfl) (RdT.str Tryd.underlying9))))))))) (RdFs.cons (by kernel_rfl) (RdT.slice (B := 80) Tryd.underlying36 (by kernel_rfl) (by decide) (by kernel_rfl) (RdT.agg (l := [(0, 9), (1, 9), (2, 40), (3, 40)]) Tryd.underlying88 rfl (by kernel_rfl) (RdFs.cons (by kernel_rfl) (RdT.str Tryd.underlying9) (RdFs.cons (by kernel_rfl) (RdT.str Tryd.underlying9) (RdFs.cons (by kernel_rfl) (RdT.slice (B := 32) Tryd.underlying40 (by kernel_rfl) (by decide) (by kernel_rfl) (RdT.agg (l := [(0, 9), (1, 9)]) Tryd.underlying70 rfl (by kernel_rfl) (RdFs.cons (by kernel_rfl) (RdT.str Tryd.underlying9) (RdFs.one (by kernel_rfl) (RdT.str Tryd.underlying9))))) (RdFs.one (by kernel_rfl) (RdT.slice (B := 32) Tryd.underlying40 (by kernel_rfl) (by decide) (by kernel_rfl) (RdT.agg (l := [(0, 9), (1, 9)]) Tryd.underlying70 rfl (by kernel_rfl) (RdFs.cons (by kernel_rfl) (RdT.str Tryd.underlying9) (RdFs.one (by kernel_rfl) (RdT.str Tryd.underlying9))))))))))) (RdFs.one (by kernel_rfl) (RdT.slice (B := 64) Tryd.underlying37 (by kernel_rfl) (by decide) (by kernel_rfl) (RdT.agg (l := [(0, 9), (1, 40), (2, 23)]) Tryd.underlying162 rfl (by kernel_rfl) (RdFs.cons (by kernel_rfl) (RdT.str Tryd.underlying9) (RdFs.cons (by kernel_rfl) (RdT.slice (B := 32) Tryd.underlying40 (by kernel_rfl) (by decide) (by kernel_rfl) (RdT.agg (l := [(0, 9), (1, 9)]) Tryd.underlying70 rfl (by kernel_rfl) (RdFs.cons (by kernel_rfl) (RdT.str Tryd.underlying9) (RdFs.one (by kernel_rfl) (RdT.str Tryd.underlying9))))) (RdFs.one (by kernel_rfl) (RdT.slice (B := 16) Tryd.underlying23 (by kernel_rfl) (by decide) (by kernel_rfl) (RdT.str Tryd.underlying9))))))))))))) rfl (by obtain ⟨a, rfl, _⟩ := okWide_struct Tryd.underlying39 (hval 0 39 v0 rfl rfl); rfl) h0 (fun n hn => by have z := List.all_eq_true.1 hsz _ (DataW.weights_mem_each (j := 0) rfl rfl n hn); exact (of_decide_eq_true z : n ≤ reachBytes))
  have k1 := h1
  have lt1 : ∀ x ∈ p1, x.block < W.heap.size := by obtain ⟨m, hm⟩ := k1; exact DataW.trod_lt m _ _ _ hm
  obtain ⟨x1, hx1, w1⟩ := RdT.arg (RdT.slice (B := 16) Tryd.underlying23 (by kernel_rfl) (by decide) (by kernel_rfl) (RdT.str Tryd.underlying9)) rfl (by obtain ⟨a, l, c, rfl⟩ := okWide_slice Tryd.underlying23 (hval 1 23 v1 rfl rfl); rfl) h1 (fun n hn => by have z := List.all_eq_true.1 hsz _ (DataW.weights_mem_each (j := 1) rfl rfl n hn); exact (of_decide_eq_true z : n ≤ reachBytes))
  have k2 := h2
  have lt2 : ∀ x ∈ p2, x.block < W.heap.size := by obtain ⟨m, hm⟩ := k2; exact DataW.trod_lt m _ _ _ hm
  obtain ⟨x2, hx2, w2⟩ := RdT.arg (RdT.agg (l := [(0, 9), (1, 40)]) Tryd.underlying42 rfl (by kernel_rfl) (RdFs.cons (by kernel_rfl) (RdT.str Tryd.underlying9) (RdFs.one (by kernel_rfl) (RdT.slice (B := 32) Tryd.underlying40 (by kernel_rfl) (by decide) (by kernel_rfl) (RdT.agg (l := [(0, 9), (1, 9)]) Tryd.underlying70 rfl (by kernel_rfl) (RdFs.cons (by kernel_rfl) (RdT.str Tryd.underlying9) (RdFs.one (by kernel_rfl) (RdT.str Tryd.underlying9)))))))) rfl (by obtain ⟨a, rfl, _⟩ := okWide_struct Tryd.underlying42 (hval 2 42 v2 rfl rfl); rfl) h2 (fun n hn => by have z := List.all_eq_true.1 hsz _ (DataW.weights_mem_each (j := 2) rfl rfl n hn); exact (of_decide_eq_true z : n ≤ reachBytes))
  have k3 := h3
  have lt3 : ∀ x ∈ p3, x.block < W.heap.size := by obtain ⟨m, hm⟩ := k3; exact DataW.trod_lt m _ _ _ hm
  obtain ⟨x3, hx3, w3⟩ := RdT.arg (RdT.int Tryd.underlying3) rfl (by obtain ⟨a, rfl⟩ := okWide_int Tryd.underlying3 (hval 3 3 v3 rfl rfl); rfl) h3 (fun n hn => by have z := List.all_eq_true.1 hsz _ (DataW.weights_mem_each (j := 3) rfl rfl n hn); exact (of_decide_eq_true z : n ≤ reachBytes))
  clear hA0 hval0 hsz0 hsz
  obtain ⟨k, h⟩ := ConfigToolsFewerKindsPure x0 x1 x2 x3 w0 w1 w2 w3
  have hI : JS.I W := Go.Proofs.cell_of_shapedOpen_int (zero := #[.int .i64 0]) (t := 3) hsh (of_decide_eq_true (by kernel_rfl)) (by kernel_rfl) rfl (by kernel_rfl) (by kernel_rfl) Tryd.underlying3
  refine (law_end (J := JS) (ps := [.val (.agg (.pair (.slice (.agg (.pair (.str) (.slice (.str))))) (.pair (.slice (.agg (.pair (.str) (.pair (.slice (.agg (.pair (.str) (.str)))) (.slice (.agg (.pair (.str) (.str)))))))) (.pair (.slice (.agg (.pair (.str) (.slice (.agg (.pair (.str) (.str))))))) (.pair (.slice (.agg (.pair (.str) (.pair (.str) (.pair (.slice (.agg (.pair (.str) (.str)))) (.slice (.agg (.pair (.str) (.str))))))))) (.slice (.agg (.pair (.str) (.pair (.slice (.agg (.pair (.str) (.str)))) (.slice (.str))))))))))), .val (.slice (.str)), .val (.agg (.pair (.str) (.slice (.agg (.pair (.str) (.str)))))), .val (.int .i64)]) (S := S4) (vals := [v0, v1, v2, v3]) (x := (x0, x1, x2, x3, ())) ok4 hI (by obtain ⟨m, hm⟩ := hI; rcases Nat.lt_or_ge 0 W.heap.size with h | h; exact h; simp [World.cell?, Array.getElem?_eq_none h] at hm) rfl ⟨v0, _, rfl, hx0, v1, _, rfl, hx1, v2, _, rfl, hx2, v3, _, rfl, hx3, rfl⟩ h).mono fun e W' ⟨he, bel⟩ => ?_
  subst he
  exact ⟨_, rfl, _, _, _, [], _, [], hW', trodAll_mk1 (shut_bool Tryd.underlying4 _), (trodAll_cons_mk (Below.trod laidOut (by kernel_rfl) (of_decide_eq_true (by kernel_rfl)) k0 bel lt0) (trodAll_cons_mk (Below.trod laidOut (by kernel_rfl) (of_decide_eq_true (by kernel_rfl)) k1 bel lt1) (trodAll_cons_mk (Below.trod laidOut (by kernel_rfl) (of_decide_eq_true (by kernel_rfl)) k2 bel lt2) (trodAll_cons_mk (Below.trod laidOut (by kernel_rfl) (of_decide_eq_true (by kernel_rfl)) k3 bel lt3) trodAll_mk0)))), rfl, bel.frame _, fun h => by cases h⟩
theorem over : Rows.configToolsFewerKindsRow.holds Tryd.pinned (OpenSpec.ofChange Rows.configToolsFewerKindsSpec) :=
  OpenClaim.holds_of_wide 4 Tryd.f4 rfl rfl rfl rfl rfl rfl rfl ⟨rfl, rfl, rfl, rfl, rfl⟩ rfl rfl rfl rfl rfl (by kernel_rfl) Tryd.func4 (by kernel_rfl)
    (of_decide_eq_true (by kernel_rfl)) (by unfold Func.isWrapper; first | (rw [if_pos (by decide +kernel)]; kernel_rfl) | (rw [if_neg (by decide +kernel)]; exact ⟨rfl, rfl⟩))
    (fun os started H enc _ => lifted os started H enc)
theorem proved : Rows.ConfigToolsFewerKindsSaid := over
theorem card : Rows.ConfigToolsFewerKindsCardSaid :=
  Claim7.holds_tied_plain_at .later [] [.data, .pinned] true (true, "7a5baceaf1a1f43752caa0d68233d87f90630516f5a273a057188fb7e3720495") false proved (fun _ h => by cases h) (by kernel_rfl) (fun _ h => by cases h) configToolsFewerKinds_row_tie rfl ⟨rfl, rfl⟩ (by kernel_rfl) rfl
    (fun f fn hf hfn => by
      obtain rfl : f = 4 := Option.some.inj ((show Tryd.prog.funcNamed "smithyard/smithyardlaw3.ConfigToolsFewerKinds" = some 4 by kernel_rfl).symm.trans hf) |>.symm
      obtain rfl : fn = Tryd.f4 := (Option.some.inj (Tryd.func4.symm.trans hfn)).symm
      exact ⟨by kernel_rfl, fun j t ht => by
        rw [Tryd.params4] at ht
        have hm : t ∈ [39, 23, 42, 3] := by simpa using Array.mem_of_getElem? ht
        have hall : ([39, 23, 42, 3].all fun u => !Tryd.prog.wantsStandIn u) = true := by kernel_rfl
        exact (show Tryd.prog.wantsStandIn t = false by simpa using List.all_eq_true.1 hall t hm)⟩)
    (by kernel_rfl)
#print axioms card
#print axioms proved
end Go.Proofs.YtocgdpnealaoeaaDoor.configToolsFewerKinds
namespace Go.Proofs.YtocgdpnealaoeaaDoor
/-- The row, under a short name, for the claim. -/
theorem configToolsFewerKinds_holds : Rows.ConfigToolsFewerKindsCardSaid := configToolsFewerKinds.card
end Go.Proofs.YtocgdpnealaoeaaDoor
