-- Written by this session's program (wip/ev/evrow.py): the row of the law BlobPiecesComeBack, out of its pure statement and the evaluator's functions. Lean checks it.
import Derived.Test.YtcppmncmlhibhaaRows
import Derived.Test.YtcppmncmlhibhaaEv6
import Derived.Test.YtcppmncmlhibhaaFPcb
import Derived.Test.YtcppmncmlhibhaaPlPc
import Derived.WalkKit
import Derived.ProofKit
import Derived.OpenShut
import Derived.ShutString
import Derived.ChangeOld
import Derived.Below
import Derived.Carry
import Derived.SizedLaws
namespace Go.Proofs.Ytcppmncmlhibhaa.blobPiecesComeBack
open Go.ChangeShapes Go.WideShapes Go.ChangeAt Go.RowKit Go.Proofs.Ytcppmncmlhibhaa.Ev
set_option linter.unusedVariables false
theorem own : ownKnob Try.prog.godebug = none := by kernel_rfl
theorem laidOut : laidOutB Try.prog = true := by kernel_rfl
set_option maxRecDepth 100000 in
theorem lifted (os : Os) (started : os.Started) (H : Type) (enc : TypeId × Value → H) :
    ReturnsInHanded {} Try.checked os 3 .any (Rows.blobPiecesComeBackSpec.pre6 enc Try.prog Try.f3 Rows.blobPiecesComeBackRow.domain false) (Rows.blobPiecesComeBackSpec.post enc Try.prog Try.f3 false true false false) := by
  refine returnsInHanded_of_change_sized (C := Try.checked) own started (by kernel_rfl) Try.func3
    (ChangeSpec.witness6 (enc := enc) (C := Try.checked) false ⟨#[], #[.slice none 0 0, .int .i64 0, .int .i64 0, .int .i64 0, .int .i64 0], []⟩ 8 (by kernel_rfl) (by kernel_rfl) (by kernel_rfl) (by kernel_rfl)) ?_
  intro W base args ds gs before hval0 hW hcnd hsz0 _
  have hsz : (DataW.weightsEach Try.prog (Try.f3.params.toList ++ Rows.blobPiecesComeBackSpec.plain.varTypes Try.prog) (ds ++ gs)).all (· ≤ reachBytes) = true := hsz0
  have hval : ∀ (j : Nat) t v, Try.f3.params[j]? = some t → args[j]? = some v → Value.okWide Try.prog W .any base t v := hval0
  have hW' := hW
  obtain ⟨p, q, hA0, hV, rfl, hfz, hnd⟩ := hW
  have hA : DataW.TrodAll enc Try.prog W 0 (fun _ => true) true Try.f3.params.toList args.toList ds p := hA0
  rw [Try.params3] at hA hval hsz
  obtain ⟨v0, vs0, d0, ds0, p0, q0, hargs, rfl, rfl, h0, r0⟩ := trodAll_cons hA
  obtain ⟨v1, vs1, d1, ds1, p1, q1, rfl, rfl, rfl, h1, r1⟩ := trodAll_cons r0
  obtain ⟨v2, vs2, d2, ds2, p2, q2, rfl, rfl, rfl, h2, r2⟩ := trodAll_cons r1
  obtain ⟨v3, vs3, d3, ds3, p3, q3, rfl, rfl, rfl, h3, r3⟩ := trodAll_cons r2
  obtain ⟨v4, vs4, d4, ds4, p4, q4, rfl, rfl, rfl, h4, r4⟩ := trodAll_cons r3
  obtain ⟨rfl, rfl, rfl⟩ := trodAll_nil r4
  obtain rfl : args = #[v0, v1, v2, v3, v4] := by cases args; simp_all
  obtain ⟨rfl, rfl⟩ := trodVars_none hV
  have k0 := h0
  have lt0 : ∀ x ∈ p0, x.block < W.heap.size := by obtain ⟨m, hm⟩ := k0; exact DataW.trod_lt m _ _ _ hm
  obtain ⟨x0, hx0, w0⟩ := RdT.arg (RdT.slice (B := 1) Try.underlying22 (by kernel_rfl) (by decide) (by kernel_rfl) (RdT.int Try.underlying5)) rfl (by obtain ⟨a, l, c, rfl⟩ := okWide_slice Try.underlying22 (hval 0 22 v0 rfl rfl); rfl) h0 (fun n hn => by have z := List.all_eq_true.1 hsz _ (DataW.weights_mem_each (j := 0) rfl rfl n hn); exact (of_decide_eq_true z : n ≤ reachBytes))
  have k1 := h1
  have lt1 : ∀ x ∈ p1, x.block < W.heap.size := by obtain ⟨m, hm⟩ := k1; exact DataW.trod_lt m _ _ _ hm
  obtain ⟨x1, hx1, w1⟩ := RdT.arg (RdT.int Try.underlying3) rfl (by obtain ⟨a, rfl⟩ := okWide_int Try.underlying3 (hval 1 3 v1 rfl rfl); rfl) h1 (fun n hn => by have z := List.all_eq_true.1 hsz _ (DataW.weights_mem_each (j := 1) rfl rfl n hn); exact (of_decide_eq_true z : n ≤ reachBytes))
  have k2 := h2
  have lt2 : ∀ x ∈ p2, x.block < W.heap.size := by obtain ⟨m, hm⟩ := k2; exact DataW.trod_lt m _ _ _ hm
  obtain ⟨x2, hx2, w2⟩ := RdT.arg (RdT.int Try.underlying3) rfl (by obtain ⟨a, rfl⟩ := okWide_int Try.underlying3 (hval 2 3 v2 rfl rfl); rfl) h2 (fun n hn => by have z := List.all_eq_true.1 hsz _ (DataW.weights_mem_each (j := 2) rfl rfl n hn); exact (of_decide_eq_true z : n ≤ reachBytes))
  have k3 := h3
  have lt3 : ∀ x ∈ p3, x.block < W.heap.size := by obtain ⟨m, hm⟩ := k3; exact DataW.trod_lt m _ _ _ hm
  obtain ⟨x3, hx3, w3⟩ := RdT.arg (RdT.int Try.underlying3) rfl (by obtain ⟨a, rfl⟩ := okWide_int Try.underlying3 (hval 3 3 v3 rfl rfl); rfl) h3 (fun n hn => by have z := List.all_eq_true.1 hsz _ (DataW.weights_mem_each (j := 3) rfl rfl n hn); exact (of_decide_eq_true z : n ≤ reachBytes))
  have k4 := h4
  have lt4 : ∀ x ∈ p4, x.block < W.heap.size := by obtain ⟨m, hm⟩ := k4; exact DataW.trod_lt m _ _ _ hm
  obtain ⟨x4, hx4, w4⟩ := RdT.arg (RdT.int Try.underlying3) rfl (by obtain ⟨a, rfl⟩ := okWide_int Try.underlying3 (hval 4 3 v4 rfl rfl); rfl) h4 (fun n hn => by have z := List.all_eq_true.1 hsz _ (DataW.weights_mem_each (j := 4) rfl rfl n hn); exact (of_decide_eq_true z : n ≤ reachBytes))
  clear hA0 hval0 hsz0 hsz
  obtain ⟨k, h⟩ := BlobPiecesComeBackPure x0 x1 x2 x3 x4 w0 w1 w2 w3 w4
  refine (law_end (J := JT) (ps := [.val (.slice (.int .u8)), .val (.int .i64), .val (.int .i64), .val (.int .i64), .val (.int .i64)]) (S := S3) (vals := [v0, v1, v2, v3, v4]) (x := (x0, x1, x2, x3, x4, ())) ok3 trivial (Nat.zero_le _) rfl ⟨v0, _, rfl, hx0, v1, _, rfl, hx1, v2, _, rfl, hx2, v3, _, rfl, hx3, v4, _, rfl, hx4, rfl⟩ h).mono fun e W' ⟨he, bel⟩ => ?_
  subst he
  exact ⟨_, rfl, _, _, _, [], _, [], hW', trodAll_mk1 (shut_bool Try.underlying4 _), (trodAll_cons_mk (Below.trod laidOut (by kernel_rfl) (of_decide_eq_true (by kernel_rfl)) k0 bel lt0) (trodAll_cons_mk (Below.trod laidOut (by kernel_rfl) (of_decide_eq_true (by kernel_rfl)) k1 bel lt1) (trodAll_cons_mk (Below.trod laidOut (by kernel_rfl) (of_decide_eq_true (by kernel_rfl)) k2 bel lt2) (trodAll_cons_mk (Below.trod laidOut (by kernel_rfl) (of_decide_eq_true (by kernel_rfl)) k3 bel lt3) (trodAll_cons_mk (Below.trod laidOut (by kernel_rfl) (of_decide_eq_true (by kernel_rfl)) k4 bel lt4) trodAll_mk0))))), rfl, bel.frame _, fun h => by cases h⟩
theorem over : Rows.blobPiecesComeBackRow.holds Try.pinned (OpenSpec.ofChange Rows.blobPiecesComeBackSpec) :=
  OpenClaim.holds_of_wide 3 Try.f3 rfl rfl rfl rfl rfl rfl rfl ⟨rfl, rfl, rfl, rfl, rfl⟩ rfl rfl rfl rfl rfl (by kernel_rfl) Try.func3 (by kernel_rfl)
    (of_decide_eq_true (by kernel_rfl)) (by unfold Func.isWrapper; first | (rw [if_pos (by decide +kernel)]; kernel_rfl) | (rw [if_neg (by decide +kernel)]; exact ⟨rfl, rfl⟩))
    (fun os started H enc _ => lifted os started H enc)
theorem proved : Rows.BlobPiecesComeBackSaid := over
#print axioms proved
end Go.Proofs.Ytcppmncmlhibhaa.blobPiecesComeBack
namespace Go.Proofs.Ytcppmncmlhibhaa
/-- The row, under a short name, for the claim. -/
theorem blobPiecesComeBack_holds : Rows.BlobPiecesComeBackSaid := blobPiecesComeBack.proved
end Go.Proofs.Ytcppmncmlhibhaa
