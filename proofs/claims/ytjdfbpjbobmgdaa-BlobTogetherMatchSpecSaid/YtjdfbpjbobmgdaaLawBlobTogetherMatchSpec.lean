-- Written by this session's program (wip/tools/rows.py): the row of the law BlobTogetherMatchSpec, out of its Pure and the written walk. Lean checks it.
import Derived.Test.YtjdfbpjbobmgdaaRows
import Derived.Test.YtjdfbpjbobmgdaaStBlobTogetherMatchSpec
import Derived.Test.YtjdfbpjbobmgdaaPureBlobTogetherMatchSpec
import Derived.WalkKit
import Derived.ProofKit
import Derived.OpenShut
import Derived.ShutString
import Derived.ChangeOld
import Derived.Below
import Derived.SizedLaws
namespace Go.Proofs.Ytjdfbpjbobmgdaa.blobTogetherMatchSpec
open Go.ChangeShapes Go.WideShapes Go.ChangeAt Go.RowKit
open Go.ChangeMaps (open_string shut_string)
set_option linter.unusedVariables false
theorem own : ownKnob Try.prog.godebug = none := by kernel_rfl
theorem laidOut : laidOutB Try.prog = true := by kernel_rfl
set_option maxRecDepth 100000 in
theorem lifted (os : Os) (started : os.Started) (H : Type) (enc : TypeId × Value → H) :
    ReturnsInHanded {} Try.checked os 7 .any (Rows.blobTogetherMatchSpecSpec.pre6 enc Try.prog Try.f7 Rows.blobTogetherMatchSpecRow.domain false) (Rows.blobTogetherMatchSpecSpec.post enc Try.prog Try.f7 false true false false) := by
  refine returnsInHanded_of_change_sized (C := Try.checked) own started (by kernel_rfl) Try.func7
    (ChangeSpec.witness6 (enc := enc) (C := Try.checked) false ⟨#[], #[.slice none 0 0, .slice none 0 0, .slice none 0 0, .int .i64 0, .int .i64 0, .int .i64 0], []⟩ 8 (by kernel_rfl) (by kernel_rfl) (by kernel_rfl) (by kernel_rfl)) ?_
  intro W base args ds gs before hval0 hW hcnd hsz0 _
  have hsz : (DataW.weightsEach Try.prog (Try.f7.params.toList ++ Rows.blobTogetherMatchSpecSpec.plain.varTypes Try.prog) (ds ++ gs)).all (· ≤ reachBytes) = true := hsz0
  have hval : ∀ (j : Nat) t v, Try.f7.params[j]? = some t → args[j]? = some v → Value.okWide Try.prog W .any base t v := hval0
  have hW' := hW
  obtain ⟨p, q, hA0, hV, rfl, hfz, hnd⟩ := hW
  have hA : DataW.TrodAll enc Try.prog W 0 (fun _ => true) true Try.f7.params.toList args.toList ds p := hA0
  rw [Try.params7] at hA hval hsz
  obtain ⟨v0, vs0, d0, ds0, p0, q0, hargs, rfl, rfl, h0, r0⟩ := trodAll_cons hA
  obtain ⟨v1, vs1, d1, ds1, p1, q1, rfl, rfl, rfl, h1, r1⟩ := trodAll_cons r0
  obtain ⟨v2, vs2, d2, ds2, p2, q2, rfl, rfl, rfl, h2, r2⟩ := trodAll_cons r1
  obtain ⟨v3, vs3, d3, ds3, p3, q3, rfl, rfl, rfl, h3, r3⟩ := trodAll_cons r2
  obtain ⟨v4, vs4, d4, ds4, p4, q4, rfl, rfl, rfl, h4, r4⟩ := trodAll_cons r3
  obtain ⟨v5, vs5, d5, ds5, p5, q5, rfl, rfl, rfl, h5, r5⟩ := trodAll_cons r4
  obtain ⟨rfl, rfl, rfl⟩ := trodAll_nil r5
  obtain rfl : args = #[v0, v1, v2, v3, v4, v5] := by cases args; simp_all
  obtain ⟨rfl, rfl⟩ := trodVars_none hV
  obtain ⟨a0, len0, cap0, rfl⟩ := okWide_slice Try.underlying37 (hval 0 37 v0 rfl rfl)
  have k0 := h0
  have lt0 : ∀ x ∈ p0, x.block < W.heap.size := by obtain ⟨m, hm⟩ := k0; exact DataW.trod_lt m _ _ _ hm
  obtain ⟨l0, e0, c0, hr0, w0⟩ : ∃ l, len0 = l.length ∧ l.length ≤ cap0 ∧ Go.Proofs.YtjdfbpjbobmgdaaW.PrintWords.Kd.C (Go.Proofs.YtjdfbpjbobmgdaaW.PrintWords.Kd.slice 5 (Go.Proofs.YtjdfbpjbobmgdaaW.PrintWords.Kd.int .u8)) W a0 l.length l ∧ (Reads.WfS 24 (Reads.WfS 1 (fun n => (Lit.int .u8 n).wf = true))) l := by
    obtain ⟨fuel, hf⟩ := h0
    obtain ⟨l, ⟨A, c, he, hl, hC⟩, hw⟩ := (Reads.Rd.slice (B := 24) Try.underlying37 (by kernel_rfl) (by kernel_rfl) (Reads.Rd.slice (B := 1) Try.underlying22 (by kernel_rfl) (by kernel_rfl) (Reads.Rd.int Try.underlying5))) _ _ _ _ _ _ fuel _ _ hf (fun n hn => by have z := List.all_eq_true.1 hsz _ (DataW.weights_mem_each (j := 0) rfl rfl n hn); exact (of_decide_eq_true z : n ≤ reachBytes))
    simp [Value.cells] at he
    obtain ⟨rfl, rfl, rfl⟩ := he
    exact ⟨l, rfl, hl, hC, hw⟩
  subst e0
  obtain ⟨a1, len1, cap1, rfl⟩ := okWide_slice Try.underlying22 (hval 1 22 v1 rfl rfl)
  have k1 := h1
  have lt1 : ∀ x ∈ p1, x.block < W.heap.size := by obtain ⟨m, hm⟩ := k1; exact DataW.trod_lt m _ _ _ hm
  obtain ⟨l1, e1, c1, hr1, w1⟩ : ∃ l, len1 = l.length ∧ l.length ≤ cap1 ∧ Go.Proofs.YtjdfbpjbobmgdaaW.PrintWords.Kd.C (Go.Proofs.YtjdfbpjbobmgdaaW.PrintWords.Kd.int .u8) W a1 l.length l ∧ (Reads.WfS 1 (fun n => (Lit.int .u8 n).wf = true)) l := by
    obtain ⟨fuel, hf⟩ := h1
    obtain ⟨l, ⟨A, c, he, hl, hC⟩, hw⟩ := (Reads.Rd.slice (B := 1) Try.underlying22 (by kernel_rfl) (by kernel_rfl) (Reads.Rd.int Try.underlying5)) _ _ _ _ _ _ fuel _ _ hf (fun n hn => by have z := List.all_eq_true.1 hsz _ (DataW.weights_mem_each (j := 1) rfl rfl n hn); exact (of_decide_eq_true z : n ≤ reachBytes))
    simp [Value.cells] at he
    obtain ⟨rfl, rfl, rfl⟩ := he
    exact ⟨l, rfl, hl, hC, hw⟩
  subst e1
  obtain ⟨a2, len2, cap2, rfl⟩ := okWide_slice Try.underlying22 (hval 2 22 v2 rfl rfl)
  have k2 := h2
  have lt2 : ∀ x ∈ p2, x.block < W.heap.size := by obtain ⟨m, hm⟩ := k2; exact DataW.trod_lt m _ _ _ hm
  obtain ⟨l2, e2, c2, hr2, w2⟩ : ∃ l, len2 = l.length ∧ l.length ≤ cap2 ∧ Go.Proofs.YtjdfbpjbobmgdaaW.PrintWords.Kd.C (Go.Proofs.YtjdfbpjbobmgdaaW.PrintWords.Kd.int .u8) W a2 l.length l ∧ (Reads.WfS 1 (fun n => (Lit.int .u8 n).wf = true)) l := by
    obtain ⟨fuel, hf⟩ := h2
    obtain ⟨l, ⟨A, c, he, hl, hC⟩, hw⟩ := (Reads.Rd.slice (B := 1) Try.underlying22 (by kernel_rfl) (by kernel_rfl) (Reads.Rd.int Try.underlying5)) _ _ _ _ _ _ fuel _ _ hf (fun n hn => by have z := List.all_eq_true.1 hsz _ (DataW.weights_mem_each (j := 2) rfl rfl n hn); exact (of_decide_eq_true z : n ≤ reachBytes))
    simp [Value.cells] at he
    obtain ⟨rfl, rfl, rfl⟩ := he
    exact ⟨l, rfl, hl, hC, hw⟩
  subst e2
  obtain ⟨a3, rfl, rfl, rfl, w3⟩ := open_int Try.underlying3 (hval 3 3 v3 rfl rfl) h3
  obtain ⟨a4, rfl, rfl, rfl, w4⟩ := open_int Try.underlying3 (hval 4 3 v4 rfl rfl) h4
  obtain ⟨a5, rfl, rfl, rfl, w5⟩ := open_int Try.underlying3 (hval 5 3 v5 rfl rfl) h5
  clear hA0 hval0 hsz0 hsz
  obtain ⟨k, h⟩ := Pure.BlobTogetherMatchSpec l0 l1 l2 a3 a4 a5 w0 w1 w2 w3 w4 w5
  refine (QTogether.smithyardlaw1_BlobTogetherMatchSpec.calls k _ _ l0 _ _ l1 _ _ l2 a3 a4 a5 true W hr0 c0 hr1 c1 hr2 c2 h).mono fun e W' ⟨he, bel0⟩ => ?_
  have bel : Below W.heap.size W W' := bel0
  subst he
  exact ⟨_, rfl, _, _, _, [], _, [], hW', trodAll_mk1 (shut_bool Try.underlying4 _), (trodAll_cons_mk (Below.trod laidOut (by kernel_rfl) (of_decide_eq_true (by kernel_rfl)) k0 bel lt0) (trodAll_cons_mk (Below.trod laidOut (by kernel_rfl) (of_decide_eq_true (by kernel_rfl)) k1 bel lt1) (trodAll_cons_mk (Below.trod laidOut (by kernel_rfl) (of_decide_eq_true (by kernel_rfl)) k2 bel lt2) (trodAll_cons_mk (shut_int Try.underlying3 w3) (trodAll_cons_mk (shut_int Try.underlying3 w4) (trodAll_cons_mk (shut_int Try.underlying3 w5) trodAll_mk0)))))), rfl, bel.frame _, fun h => by cases h⟩
theorem over : Rows.blobTogetherMatchSpecRow.holds Try.pinned (OpenSpec.ofChange Rows.blobTogetherMatchSpecSpec) :=
  OpenClaim.holds_of_wide 7 Try.f7 rfl rfl rfl rfl rfl rfl rfl ⟨rfl, rfl, rfl, rfl, rfl⟩ rfl rfl rfl rfl rfl (by kernel_rfl) Try.func7 (by kernel_rfl)
    (of_decide_eq_true (by kernel_rfl)) (by unfold Func.isWrapper; first | (rw [if_pos (by decide +kernel)]; kernel_rfl) | (rw [if_neg (by decide +kernel)]; exact ⟨rfl, rfl⟩))
    (fun os started H enc _ => lifted os started H enc)
theorem proved : Rows.BlobTogetherMatchSpecSaid := over
#print axioms proved
end Go.Proofs.Ytjdfbpjbobmgdaa.blobTogetherMatchSpec
namespace Go.Proofs.Ytjdfbpjbobmgdaa
/-- The row, under a short name, for the claim. -/
theorem blobTogetherMatchSpec_holds : Rows.BlobTogetherMatchSpecSaid := blobTogetherMatchSpec.proved
end Go.Proofs.Ytjdfbpjbobmgdaa
