/- slices.Concat of two lists of strings, by hand (this session's own): up to 2^48 bytes. The conditions stand in each statement. -/
import Derived.Test.YtocgdpnealaoeaaDoorProg
import Derived.WalkKit
import Derived.Deep.AppendSrc
import Derived.Lib.AppendZerosOnto
import Derived.Lib.SliceRun
import Derived.Shelf.Spec.SlicesInsertGrow
namespace Go.Proofs.YtocgdpnealaoeaaDoor.Ev
open Go Go.Proofs Go.Shelf Go.RowKit Go.Lib
set_option linter.unusedVariables false
set_option linter.unusedSimpArgs false
theorem run_append_nil0 {P : Program} (w : World) (t tx ty e : TypeId) (i : TypeInfo) (ht : P.underlying t = some (.slice e)) (hi : P.info? e = some i) (x : Value) (hs : Src P i.size tx x 0 [] w) :
    (Builtin.append_ #[t, tx] ty #[.slice none 0 0, x]).run P w = .ok (.slice none 0 0) w := by
  rcases hs.kind with ⟨e', hk⟩ | hk <;> simp [Builtin.append_, run_underlying ht, run_underlying hk, sizeOf, typeInfo, hi, hs.len, hs.cells]
abbrev ZS : Value := .string ⟨#[]⟩
theorem info9 : ∃ i, Tryd.prog.info? 9 = some i ∧ i.zero = some ZS ∧ i.size = 1 ∧ i.bytes = 16 := by
  have h : (Tryd.prog.info? 9).isSome = true := by kernel_rfl
  obtain ⟨i, hi⟩ := Option.isSome_iff_exists.1 h
  have e1 : (Tryd.prog.info? 9).bind (·.zero) = some ZS := by kernel_rfl
  have e2 : (Tryd.prog.info? 9).map (·.size) = some 1 := by kernel_rfl
  have e3 : (Tryd.prog.info? 9).map (·.bytes) = some 16 := by kernel_rfl
  rw [hi] at e1 e2 e3
  exact ⟨i, hi, e1, by simpa using e2, by simpa using e3⟩
set_option maxHeartbeats 2000000 in
set_option maxRecDepth 100000 in
theorem grow_zero (w : World) : Calls Tryd.prog 34 #[.slice none 0 0, .int .i64 0] w fun e w' => e = .returned (.slice none 0 0) ∧ w' = w := by
  have t3 := Tryd.underlying3; have a3 := Tryd.isAgg3; have z3 := Tryd.sizeOf3; have v3 := Tryd.zeroValue3; have t4 := Tryd.underlying4; have a4 := Tryd.isAgg4; have z4 := Tryd.sizeOf4; have v4 := Tryd.zeroValue4; have t23 := Tryd.underlying23; have a23 := Tryd.isAgg23; have z23 := Tryd.sizeOf23; have v23 := Tryd.zeroValue23; have t9 := Tryd.underlying9; have a9 := Tryd.isAgg9; have z9 := Tryd.sizeOf9; have v9 := Tryd.zeroValue9
  have u3 := run_underlying Tryd.underlying3; have u4 := run_underlying Tryd.underlying4; have u23 := run_underlying Tryd.underlying23
  have mixed : Tryd.prog.follows .mixedOrders = true := by kernel_rfl
  go_enter Tryd.func34, Tryd.ntmps34
  go_wp2
  go_ret
  exact ⟨rfl, rfl⟩
set_option maxHeartbeats 2000000 in
set_option maxRecDepth 100000 in
theorem grow_some (w : World) (n : Nat) (h0 : 0 < n) (hb : n * 16 ≤ 281474976710656) : Calls Tryd.prog 34 #[.slice none 0 0, .int .i64 n] w fun e w' =>
    e = .returned (.slice (some ⟨w.heap.size, 0, none⟩) 0 (grownCap w n 0 9)) ∧ w' = w.drew.alloc (.cells (Builtin.zeroCells ZS.cells n ++ Builtin.zeroCells ZS.cells (grownCap w n 0 9 - n)) 9) := by
  have t3 := Tryd.underlying3; have a3 := Tryd.isAgg3; have z3 := Tryd.sizeOf3; have v3 := Tryd.zeroValue3; have t4 := Tryd.underlying4; have a4 := Tryd.isAgg4; have z4 := Tryd.sizeOf4; have v4 := Tryd.zeroValue4; have t23 := Tryd.underlying23; have a23 := Tryd.isAgg23; have z23 := Tryd.sizeOf23; have v23 := Tryd.zeroValue23; have t9 := Tryd.underlying9; have a9 := Tryd.isAgg9; have z9 := Tryd.sizeOf9; have v9 := Tryd.zeroValue9
  have u3 := run_underlying Tryd.underlying3; have u4 := run_underlying Tryd.underlying4; have u23 := run_underlying Tryd.underlying23
  have mixed : Tryd.prog.follows .mixedOrders = true := by kernel_rfl
  obtain ⟨i0, hi0, hz0, hzs, hzb⟩ := info9
  have hneg : ¬ ((n : Int) < 0) := by omega
  have hpos : (0 : Int) < (n : Int) := by omega
  have hw : IntKind.i64.wrap (n : Int) = (n : Int) := by rw [IntKind.wrap_i64]; omega
  have hfit : Builtin.nextslicecap (0 + n) 0 * i0.bytes ≤ 281474976710656 := by
    rw [hzb]
    have : Builtin.nextslicecap (0 + n) 0 = n := by
      unfold Builtin.nextslicecap
      simp [h0]
    omega
  have hrz : ∀ ty, (Builtin.append_ #[23, 3] ty #[.slice none 0 0, .int .i64 (n : Int)]).run Tryd.prog w =
      .ok (.slice (some ⟨w.heap.size, 0, none⟩) n (grownCap w n 0 9)) (w.drew.alloc (.cells (Builtin.zeroCells ZS.cells n ++ Builtin.zeroCells ZS.cells (grownCap w n 0 9 - n)) 9)) := fun ty => by
    have h := Lib.run_append_grow_zeros w 23 3 ty 9 i0 _ .i64 .i64 Tryd.underlying23 Tryd.underlying3 hi0 hz0 none 0 0 [] (run_firstCells_none w.drew i0.size 0 0 0) n h0 (by omega) (by omega) (by omega) (by rw [hzb]; omega) hfit
    simpa using h
  go_enter Tryd.func34, Tryd.ntmps34
  go_wp2_with (at_builtin; refine Lib.wpList_append_run _ rfl _ _ _ _ rfl _ _ rfl rfl _ _ (hrz _) ?_)
  go_ret
  exact ⟨rfl, rfl⟩
set_option maxHeartbeats 4000000 in
set_option maxRecDepth 100000 in
theorem cat_none (ab ao c n1 c1 n2 c2 : Nat) (b1 b2 : Option Addr) (w : World) (h0 : w.cell? ⟨ab, ao, none⟩ = some (.slice b1 0 c1)) (h1 : w.cell? ⟨ab, ao + 1, none⟩ = some (.slice b2 0 c2))
    (s1 : Src Tryd.prog 1 23 (.slice b1 0 c1) 0 [] w) (s2 : Src Tryd.prog 1 23 (.slice b2 0 c2) 0 [] w) :
    Calls Tryd.prog 17 #[.slice (some ⟨ab, ao, none⟩) 2 c] w fun e w' => e = .returned (.slice none 0 0) ∧ w' = w := by
  have t3 := Tryd.underlying3; have a3 := Tryd.isAgg3; have z3 := Tryd.sizeOf3; have v3 := Tryd.zeroValue3; have t4 := Tryd.underlying4; have a4 := Tryd.isAgg4; have z4 := Tryd.sizeOf4; have v4 := Tryd.zeroValue4; have t23 := Tryd.underlying23; have a23 := Tryd.isAgg23; have z23 := Tryd.sizeOf23; have v23 := Tryd.zeroValue23; have t9 := Tryd.underlying9; have a9 := Tryd.isAgg9; have z9 := Tryd.sizeOf9; have v9 := Tryd.zeroValue9
  have t73 := Tryd.underlying73; have a73 := Tryd.isAgg73; have z73 := Tryd.sizeOf73; have v73 := Tryd.zeroValue73
  have u3 := run_underlying Tryd.underlying3; have u4 := run_underlying Tryd.underlying4; have u23 := run_underlying Tryd.underlying23; have u73 := run_underlying Tryd.underlying73
  have mixed : Tryd.prog.follows .mixedOrders = true := by kernel_rfl
  obtain ⟨i0, hi0, hz0, hzs, hzb⟩ := info9
  rw [← hzs] at s1 s2
  have r1 : ∀ ty, (Builtin.append_ #[23, 23] ty #[.slice none 0 0, .slice b1 0 c1]).run Tryd.prog w = _ := fun ty => run_append_nil0 w 23 23 ty 9 i0 Tryd.underlying23 hi0 _ s1
  have r2 : ∀ ty, (Builtin.append_ #[23, 23] ty #[.slice none 0 0, .slice b2 0 c2]).run Tryd.prog w = _ := fun ty => run_append_nil0 w 23 23 ty 9 i0 Tryd.underlying23 hi0 _ s2
  go_enter Tryd.func17, Tryd.ntmps17
  go_wp2
  refine wp_loop_rounds 3 ?_
  rw [rounds_succ]; go_wp2
  rw [rounds_succ]; go_wp2
  rw [rounds_succ]; go_wp2_with (go_at_call 34; refine (grow_zero _).mono ?_; rintro e w' ⟨rfl, rfl⟩)
  refine wp_loop_rounds 3 ?_
  rw [rounds_succ]; go_wp2_with (at_builtin; refine Lib.wpList_append_run _ rfl _ _ _ _ rfl _ _ rfl rfl _ _ (r1 _) ?_)
  rw [rounds_succ]; go_wp2_with (at_builtin; refine Lib.wpList_append_run _ rfl _ _ _ _ rfl _ _ rfl rfl _ _ (r2 _) ?_)
  rw [rounds_succ]; go_wp2
  go_ret
  exact ⟨rfl, rfl⟩
set_option maxHeartbeats 4000000 in
set_option maxRecDepth 100000 in
theorem cat_some (ab ao c n1 c1 n2 c2 : Nat) (b1 b2 : Option Addr) (cs1 cs2 : List Value) (w : World) (h0 : w.cell? ⟨ab, ao, none⟩ = some (.slice b1 n1 c1)) (h1 : w.cell? ⟨ab, ao + 1, none⟩ = some (.slice b2 n2 c2))
    (s1 : ∀ w' : World, (∀ x v, w.cell? x = some v → w'.cell? x = some v) → Src Tryd.prog 1 23 (.slice b1 n1 c1) n1 cs1 w') (s2 : ∀ w' : World, (∀ x v, w.cell? x = some v → w'.cell? x = some v) → Src Tryd.prog 1 23 (.slice b2 n2 c2) n2 cs2 w')
    (hpos : 0 < n1 + n2) (hb1 : n1 * 16 ≤ 140737488355328) (hb2 : n2 * 16 ≤ 140737488355328) (l1 : cs1.length = n1) (l2 : cs2.length = n2) :
    Calls Tryd.prog 17 #[.slice (some ⟨ab, ao, none⟩) 2 c] w fun e w' => e = .returned (.slice (some ⟨w.heap.size, 0, none⟩) (n1 + n2) (grownCap w (n1 + n2) 0 9)) ∧
      w' = ((w.drew.alloc (.cells (Builtin.zeroCells ZS.cells (n1 + n2) ++ Builtin.zeroCells ZS.cells (grownCap w (n1 + n2) 0 9 - (n1 + n2))) 9)).setCells w.heap.size 0 cs1).setCells w.heap.size n1 cs2 := by
  have t3 := Tryd.underlying3; have a3 := Tryd.isAgg3; have z3 := Tryd.sizeOf3; have v3 := Tryd.zeroValue3; have t4 := Tryd.underlying4; have a4 := Tryd.isAgg4; have z4 := Tryd.sizeOf4; have v4 := Tryd.zeroValue4; have t23 := Tryd.underlying23; have a23 := Tryd.isAgg23; have z23 := Tryd.sizeOf23; have v23 := Tryd.zeroValue23; have t9 := Tryd.underlying9; have a9 := Tryd.isAgg9; have z9 := Tryd.sizeOf9; have v9 := Tryd.zeroValue9
  have t73 := Tryd.underlying73; have a73 := Tryd.isAgg73; have z73 := Tryd.sizeOf73; have v73 := Tryd.zeroValue73
  have u3 := run_underlying Tryd.underlying3; have u4 := run_underlying Tryd.underlying4; have u23 := run_underlying Tryd.underlying23; have u73 := run_underlying Tryd.underlying73
  have mixed : Tryd.prog.follows .mixedOrders = true := by kernel_rfl
  obtain ⟨i0, hi0, hz0, hzs, hzb⟩ := info9
  have hw0 : IntKind.i64.wrap (n1 : Int) = (n1 : Int) := by rw [IntKind.wrap_i64]; omega
  have hw1 : IntKind.i64.wrap ((n1 : Int) + (n2 : Int)) = (n1 : Int) + (n2 : Int) := by rw [IntKind.wrap_i64]; omega
  have hn0 : ¬ ((n1 : Int) < 0) := by omega
  have hn1 : ¬ ((n1 : Int) + (n2 : Int) < 0) := by omega
  obtain ⟨G, hG⟩ : ∃ G, G = grownCap w (n1 + n2) 0 9 := ⟨_, rfl⟩
  have hGe : n1 + n2 ≤ G := by rw [hG]; exact grownCap_ge w _ _ _
  obtain ⟨ROW, hROW⟩ : ∃ ROW : Array Value, ROW = Builtin.zeroCells ZS.cells (n1 + n2) ++ Builtin.zeroCells ZS.cells (G - (n1 + n2)) := ⟨_, rfl⟩
  have hRs : ROW.size = G := by
    rw [hROW]
    simp [Builtin.zeroCells, Value.cells]
    omega
  have hgr := grow_some w (n1 + n2) hpos (by omega)
  rw [← hG, ← hROW, show ((n1 + n2 : Nat) : Int) = (n1 : Int) + (n2 : Int) by omega] at hgr
  rw [← hG, ← hROW]
  obtain ⟨W1, hW1⟩ : ∃ W1, W1 = w.drew.alloc (.cells ROW 9) := ⟨_, rfl⟩
  rw [← hW1] at hgr ⊢
  have k1 : ∀ x v, w.cell? x = some v → W1.cell? x = some v := fun x v h => by
    rw [hW1]; exact Lib.cell?_alloc_some (W := w.drew) _ h
  have hN : ∀ j, j < G → (W1.cell? ⟨w.heap.size, j, none⟩).isSome = true := fun j hj => by
    rw [hW1, World.cell?_alloc_at (w := w.drew) ROW _ w.heap.size j rfl, Array.getElem?_eq_getElem (by omega)]; rfl
  have hNf : ∀ j, W1.frozen? ⟨w.heap.size, j, none⟩ = false := fun j => by rw [hW1]; exact World.frozen?_alloc_at (w := w.drew) ROW _ w.heap.size j rfl
  have q1 := s1 W1 k1
  obtain ⟨W2, hW2⟩ : ∃ W2, W2 = W1.setCells w.heap.size 0 cs1 := ⟨_, rfl⟩
  have k2 : ∀ x v, w.cell? x = some v → W2.cell? x = some v := fun x v h => by
    rw [hW2, World.cell?_setCells_out _ _ _ _ _ (fun e _ => absurd e (Nat.ne_of_lt (block_lt_of_cell h)))]; exact k1 x v h
  have q2 := s2 W2 k2
  rw [← hzs] at q1 q2
  have g1 : ∀ ty, (Builtin.append_ #[23, 23] ty #[.slice (some ⟨w.heap.size, 0, none⟩) 0 G, .slice b1 n1 c1]).run Tryd.prog W1 = .ok (.slice (some ⟨w.heap.size, 0, none⟩) n1 G) W2 := fun ty => by
    have h := run_append_room_src W1 23 23 ty 9 i0 Tryd.underlying23 hi0 w.heap.size 0 0 G _ n1 cs1 q1 (by omega) (by intro j hj; simp only [Nat.zero_mul, Nat.zero_add]; exact hN j (by omega)) (by intro j hj; exact hNf _)
    simp only [Nat.zero_mul, Nat.zero_add] at h
    rw [← hW2] at h
    exact h
  have g2 : ∀ ty, (Builtin.append_ #[23, 23] ty #[.slice (some ⟨w.heap.size, 0, none⟩) n1 G, .slice b2 n2 c2]).run Tryd.prog W2 = .ok (.slice (some ⟨w.heap.size, 0, none⟩) (n1 + n2) G) (W2.setCells w.heap.size n1 cs2) := fun ty => by
    have h := run_append_room_src W2 23 23 ty 9 i0 Tryd.underlying23 hi0 w.heap.size 0 n1 G _ n2 cs2 q2 hGe (by
      intro j hj
      rw [hzs, hW2]
      exact isSome_setCells _ _ _ _ (fun j hj => by rw [Nat.zero_add]; exact hN j (by omega)) _ (hN _ (by omega))) (by
      intro j hj
      rw [hW2, World.frozen?_setCells]; exact hNf _)
    rw [hzs, Nat.mul_one, Nat.zero_add] at h
    exact h
  have h0' := k1 _ _ h0
  have h1' := k2 _ _ h1
  rw [← hW2]
  clear hG hW1 hW2
  go_enter Tryd.func17, Tryd.ntmps17
  go_wp2
  refine wp_loop_rounds 3 ?_
  rw [rounds_succ]; go_wp2
  rw [rounds_succ]; go_wp2
  rw [rounds_succ]; go_wp2_with (go_at_call 34; refine hgr.mono ?_; rintro e w' ⟨rfl, rfl⟩)
  refine wp_loop_rounds 3 ?_
  rw [rounds_succ]; go_wp2_with (at_builtin; refine Lib.wpList_append_run _ rfl _ _ _ _ rfl _ _ rfl rfl _ _ (g1 _) ?_)
  rw [rounds_succ]; go_wp2_with (at_builtin; refine Lib.wpList_append_run _ rfl _ _ _ _ rfl _ _ rfl rfl _ _ (g2 _) ?_)
  rw [rounds_succ]; go_wp2
  go_ret
  exact ⟨rfl, rfl⟩
end Go.Proofs.YtocgdpnealaoeaaDoor.Ev
