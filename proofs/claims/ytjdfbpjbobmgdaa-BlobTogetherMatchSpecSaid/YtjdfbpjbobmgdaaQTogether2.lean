-- Written by this session's program (wip/tools/pp.py) out of the translation; Lean checks it.
import Derived.Test.YtjdfbpjbobmgdaaQTogether0
namespace Go.Proofs.Ytjdfbpjbobmgdaa.QTogether
open Go.RowKit Go.Proofs.YtjdfbpjbobmgdaaW.PrintWords Go.Proofs.YtjdfbpjbobmgdaaW.PrintLast Go.Proofs.YtjdfbpjbobmgdaaW.PrintMore
attribute [local go_sem] max2_int min2_int max_two min_two max_three min_three max_four min_four   -- for this text's walks alone
attribute [local go_sem] Go.Proofs.Ytjdfbpjbobmgdaa.StrOps.str_gtr Go.Proofs.Ytjdfbpjbobmgdaa.StrOps.str_leq Go.Proofs.Ytjdfbpjbobmgdaa.StrOps.str_geq
set_option linter.unusedVariables false
set_option linter.unusedSimpArgs false

/-! ### blob_cut: function 23 -/
mutual
def blob_cut.l0 : Nat → List Int → Int → Int → Int → Int → Int → Option (List Int)
  | 0, _, _, _, _, _, _ => none
  | k + 1, x0, x1, x2, x3, x9, x16 => if x16 < 15 then (blob_cut.l0 k x0 x1 x2 x3 ((x9 * 31) % 4294967296) (wrap64 (x16 + 1))) else (blob_cut.l1 k x0 x1 x2 x3 x9 ([] : List Int) 0 0 x0 (x0.length : Int) 0)
def blob_cut.l1 : Nat → List Int → Int → Int → Int → Int → List Int → Int → Int → List Int → Int → Int → Option (List Int)
  | 0, _, _, _, _, _, _, _, _, _, _, _ => none
  | k + 1, x0, x1, x2, x3, x9, x10, x11, x12, x21, x22, x23 => if x23 < x22 then (if 0 ≤ x23 then (if x23 < (x21.length : Int) then (if x23 ≥ 16 then (if 0 ≤ (wrap64 (x23 - 16)) then (if (wrap64 (x23 - 16)) < (x0.length : Int) then (if (wrap64 ((wrap64 (x23 + 1)) - x12)) ≥ x1 then (if 0 ≤ x2 then (if (Go.bits .and .u32 (((31 * ((x11 - (x9 * ((rd x0 (wrap64 (x23 - 16))) % 4294967296))) % 4294967296)) + (rd x21 x23)) % 4294967296) (((shl .u32 1 x2) - 1) % 4294967296)) = 0 then (if x10.length < 17592186044416 then (blob_cut.l1 k x0 x1 x2 x3 x9 (x10 ++ [wrap64 ((wrap64 (x23 + 1)) - x12)]) (((31 * ((x11 - (x9 * ((rd x0 (wrap64 (x23 - 16))) % 4294967296))) % 4294967296)) + (rd x21 x23)) % 4294967296) (wrap64 (x23 + 1)) x21 x22 (wrap64 (x23 + 1))) else (none)) else (if (wrap64 ((wrap64 (x23 + 1)) - x12)) ≥ x3 then (if x10.length < 17592186044416 then (blob_cut.l1 k x0 x1 x2 x3 x9 (x10 ++ [wrap64 ((wrap64 (x23 + 1)) - x12)]) (((31 * ((x11 - (x9 * ((rd x0 (wrap64 (x23 - 16))) % 4294967296))) % 4294967296)) + (rd x21 x23)) % 4294967296) (wrap64 (x23 + 1)) x21 x22 (wrap64 (x23 + 1))) else (none)) else (blob_cut.l1 k x0 x1 x2 x3 x9 x10 (((31 * ((x11 - (x9 * ((rd x0 (wrap64 (x23 - 16))) % 4294967296))) % 4294967296)) + (rd x21 x23)) % 4294967296) x12 x21 x22 (wrap64 (x23 + 1))))) else (none)) else (if (wrap64 ((wrap64 (x23 + 1)) - x12)) ≥ x3 then (if x10.length < 17592186044416 then (blob_cut.l1 k x0 x1 x2 x3 x9 (x10 ++ [wrap64 ((wrap64 (x23 + 1)) - x12)]) (((31 * ((x11 - (x9 * ((rd x0 (wrap64 (x23 - 16))) % 4294967296))) % 4294967296)) + (rd x21 x23)) % 4294967296) (wrap64 (x23 + 1)) x21 x22 (wrap64 (x23 + 1))) else (none)) else (blob_cut.l1 k x0 x1 x2 x3 x9 x10 (((31 * ((x11 - (x9 * ((rd x0 (wrap64 (x23 - 16))) % 4294967296))) % 4294967296)) + (rd x21 x23)) % 4294967296) x12 x21 x22 (wrap64 (x23 + 1))))) else (none)) else (none)) else (if (wrap64 ((wrap64 (x23 + 1)) - x12)) ≥ x1 then (if 0 ≤ x2 then (if (Go.bits .and .u32 (((31 * x11) + (rd x21 x23)) % 4294967296) (((shl .u32 1 x2) - 1) % 4294967296)) = 0 then (if x10.length < 17592186044416 then (blob_cut.l1 k x0 x1 x2 x3 x9 (x10 ++ [wrap64 ((wrap64 (x23 + 1)) - x12)]) (((31 * x11) + (rd x21 x23)) % 4294967296) (wrap64 (x23 + 1)) x21 x22 (wrap64 (x23 + 1))) else (none)) else (if (wrap64 ((wrap64 (x23 + 1)) - x12)) ≥ x3 then (if x10.length < 17592186044416 then (blob_cut.l1 k x0 x1 x2 x3 x9 (x10 ++ [wrap64 ((wrap64 (x23 + 1)) - x12)]) (((31 * x11) + (rd x21 x23)) % 4294967296) (wrap64 (x23 + 1)) x21 x22 (wrap64 (x23 + 1))) else (none)) else (blob_cut.l1 k x0 x1 x2 x3 x9 x10 (((31 * x11) + (rd x21 x23)) % 4294967296) x12 x21 x22 (wrap64 (x23 + 1))))) else (none)) else (if (wrap64 ((wrap64 (x23 + 1)) - x12)) ≥ x3 then (if x10.length < 17592186044416 then (blob_cut.l1 k x0 x1 x2 x3 x9 (x10 ++ [wrap64 ((wrap64 (x23 + 1)) - x12)]) (((31 * x11) + (rd x21 x23)) % 4294967296) (wrap64 (x23 + 1)) x21 x22 (wrap64 (x23 + 1))) else (none)) else (blob_cut.l1 k x0 x1 x2 x3 x9 x10 (((31 * x11) + (rd x21 x23)) % 4294967296) x12 x21 x22 (wrap64 (x23 + 1)))))) else (none)) else (none)) else (if x12 < (x0.length : Int) then (if x10.length < 17592186044416 then (some (x10 ++ [wrap64 ((x0.length : Int) - x12)])) else (none)) else (some x10))
end
def blob_cut.f (k : Nat) (l0 : List Int) (a1 : Int) (a2 : Int) (a3 : Int) : Option (List Int) := blob_cut.l0 k l0 a1 a2 a3 1 0
theorem blob_cut.mono_l : ∀ k, (∀ y0 y1 y2 y3 y4 y5, LeO (blob_cut.l0 k y0 y1 y2 y3 y4 y5) (blob_cut.l0 (k + 1) y0 y1 y2 y3 y4 y5)) ∧ (∀ y0 y1 y2 y3 y4 y5 y6 y7 y8 y9 y10, LeO (blob_cut.l1 k y0 y1 y2 y3 y4 y5 y6 y7 y8 y9 y10) (blob_cut.l1 (k + 1) y0 y1 y2 y3 y4 y5 y6 y7 y8 y9 y10))
  | 0 => ⟨fun _ _ _ _ _ _ r h => by simp [blob_cut.l0] at h, fun _ _ _ _ _ _ _ _ _ _ _ r h => by simp [blob_cut.l1] at h⟩
  | k + 1 => by
    obtain ⟨ih0, ih1⟩ := blob_cut.mono_l k
    refine ⟨?_, ?_⟩
    · intro y0 y1 y2 y3 y4 y5
      unfold blob_cut.l0
      repeat' first
      | (with_reducible exact ih0 _ _ _ _ _ _)
      | (with_reducible exact ih1 _ _ _ _ _ _ _ _ _ _ _)
      | (with_reducible exact LeO.refl _)
      | (with_reducible exact LeO.none _)
      | (with_reducible refine LeO.ite ?_ ?_)
      | (with_reducible refine LeO.bind ?_ (fun _ => ?_))
      | exact ih0 _ _ _ _ _ _
      | exact ih1 _ _ _ _ _ _ _ _ _ _ _
      | exact LeO.none _
      | refine LeO.ite ?_ ?_
      | refine LeO.bind ?_ (fun _ => ?_)
    · intro y0 y1 y2 y3 y4 y5 y6 y7 y8 y9 y10
      unfold blob_cut.l1
      repeat' first
      | (with_reducible exact ih0 _ _ _ _ _ _)
      | (with_reducible exact ih1 _ _ _ _ _ _ _ _ _ _ _)
      | (with_reducible exact LeO.refl _)
      | (with_reducible exact LeO.none _)
      | (with_reducible refine LeO.ite ?_ ?_)
      | (with_reducible refine LeO.bind ?_ (fun _ => ?_))
      | exact ih0 _ _ _ _ _ _
      | exact ih1 _ _ _ _ _ _ _ _ _ _ _
      | exact LeO.none _
      | refine LeO.ite ?_ ?_
      | refine LeO.bind ?_ (fun _ => ?_)
theorem blob_cut.mono : ∀ a0 a1 a2 a3 k, LeO (blob_cut.f k a0 a1 a2 a3) (blob_cut.f (k + 1) a0 a1 a2 a3) := by
  intro a0 a1 a2 a3 k
  obtain ⟨ih0, ih1⟩ := blob_cut.mono_l k
  unfold blob_cut.f
  repeat' first
      | (with_reducible exact ih0 _ _ _ _ _ _)
      | (with_reducible exact ih1 _ _ _ _ _ _ _ _ _ _ _)
      | (with_reducible exact LeO.refl _)
      | (with_reducible exact LeO.none _)
      | (with_reducible refine LeO.ite ?_ ?_)
      | (with_reducible refine LeO.bind ?_ (fun _ => ?_))
      | exact ih0 _ _ _ _ _ _
      | exact ih1 _ _ _ _ _ _ _ _ _ _ _
      | exact LeO.none _
      | refine LeO.ite ?_ ?_
      | refine LeO.bind ?_ (fun _ => ?_)
set_option maxHeartbeats 8000000 in
set_option maxRecDepth 100000 in
theorem blob_cut.calls (k : Nat) (A0 : Option Addr) (c0 : Nat) (l0 : List Int) (a1 : Int) (a2 : Int) (a3 : Int) (r : List Int) (w : World) (hr0 : Kd.C (Kd.int .u8) w A0 l0.length l0) (hc0 : l0.length ≤ c0) (h : blob_cut.f k l0 a1 a2 a3 = some r) :
    Calls Try.prog 23 #[.slice A0 l0.length c0, .int .i64 a1, .int .i64 a2, .int .i64 a3] w fun e w' => ∃ v0_ : Value, e = .returned (v0_) ∧ Kd.R (Kd.int .i64) 3 w' w.heap.size (fun _ => True) v0_ r ∧ Below w.heap.size w w' := by
  have HR0 := Aside0.mk hr0
  have HC0 := Aside0.mk hc0
  clear hr0 hc0
  have HB := Aside0.mk (Below.refl w.heap.size w)
  have H : (blob_cut.l0 k l0 a1 a2 a3 1 0) = some r := h
  clear h
  have H' := Aside0.mk H
  clear H
  go_enter Try.func23, Try.ntmps23
  go_wp2
  go_loopg [9, 16] k (fun kq v9 v16 w' => ∃ (x9_1 : Int) (x16_1 : Int), v9 = .int .u32 x9_1 ∧ v16 = .int .i64 x16_1 ∧ Aside0 (blob_cut.l0 kq l0 a1 a2 a3 x9_1 x16_1 = some r) ∧ Aside0 (kq ≤ k) ∧ Aside0 (Below w.heap.size w w'))
  case atStart => exact ⟨(1), (0), (by first | rfl | (simp; done) | (simp [*]; done)), (by first | rfl | (simp; done) | (simp [*]; done)), H', ⟨Nat.le_refl _⟩, ⟨by repeat (first | (with_reducible first | exact HB.out | apply below_alloc | apply pw_below_drewN | apply below_drew1) | exact HB.out)⟩⟩
  case round =>
    clear H'
    try clear c2
    try clear p2
    obtain ⟨x9_1, x16_1, rfl, rfl, HA, HK1, HB⟩ := hrel
    cases gk with
    | zero => exact absurd HA.out (by simp [blob_cut.l0])
    | succ k1 =>
      have H := HA.out
      clear HA
      simp only [blob_cut.l0] at H
      by_cases c5 : x16_1 < 15
      · rw [if_pos c5] at H
        have c5b0 : decide (x16_1 < 15) = true := decide_eq_true c5
        clear c5
        have H' := Aside0.mk H
        clear H
        go_wp2
        go_roundg k1
        case measure => have := HK1.out; omega
        case rel => exact ⟨((x9_1 * 31) % 4294967296), (wrap64 (x16_1 + 1)), (by first | rfl | (simp; done) | (simp [*]; done)), (by first | rfl | (simp; done) | (simp [*]; done)), H', ⟨by have := HK1.out; omega⟩, ⟨by repeat (first | (with_reducible first | exact HB.out | apply below_alloc | apply pw_below_drewN | apply below_drew1) | exact HB.out)⟩⟩
      · rw [if_neg c5] at H
        have c5b0 : decide (x16_1 < 15) = false := decide_eq_false c5
        clear c5
        have H' := Aside0.mk H
        clear H
        go_wp2
        go_loopg [10, 11, 12, 23] k1 (fun kq v10 v11 v12 v23 w' => ∃ (x10_2 : List Int) (x11_2 : Int) (x12_2 : Int) (x23_2 : Int), v11 = .int .u32 x11_2 ∧ v12 = .int .i64 x12_2 ∧ v23 = .int .i64 x23_2 ∧ Aside0 (blob_cut.l1 kq l0 a1 a2 a3 x9_1 x10_2 x11_2 x12_2 l0 (l0.length : Int) x23_2 = some r) ∧ Aside0 (kq ≤ k1) ∧ Aside0 (Kd.R (Kd.int .i64) 3 w' w.heap.size (fun _ => True) v10 x10_2) ∧ Aside0 (Below w.heap.size w w'))
        case atStart => exact ⟨(([] : List Int)), (0), (0), (0), (by first | rfl | (simp; done) | (simp [*]; done)), (by first | rfl | (simp; done) | (simp [*]; done)), (by first | rfl | (simp; done) | (simp [*]; done)), H', ⟨Nat.le_refl _⟩, ⟨by first | exact Kd.R_nil _ _ _ _ _ | exact Kd.N_nil _ _ _ _ _ | exact Kd.V_nil _ _ _ _ _ | exact Kd.Q_nil _ _ _ _ _ | exact Kd.S_nil _ _ _ _ _⟩, ⟨by repeat (first | (with_reducible first | exact HB.out | apply below_alloc | apply pw_below_drewN | apply below_drew1) | exact HB.out)⟩⟩
        case round =>
          clear H'
          try clear c2
          try clear p2
          try clear c5
          try clear c5b0
          try clear p2
          obtain ⟨x10_2, x11_2, x12_2, x23_2, rfl, rfl, rfl, HA, HK2, HO_10, HB⟩ := hrel
          cases gk with
          | zero => exact absurd HA.out (by simp [blob_cut.l1])
          | succ k2 =>
            have H := HA.out
            clear HA
            simp only [blob_cut.l1] at H
            by_cases c6 : x23_2 < (l0.length : Int)
            · rw [if_pos c6] at H
              have c6b0 : decide (x23_2 < (l0.length : Int)) = true := decide_eq_true c6
              clear c6
              by_cases c7 : 0 ≤ x23_2
              · rw [if_pos c7] at H
                have c7b0 : decide (0 ≤ x23_2) = true := decide_eq_true c7
                clear c7
                by_cases c8 : x23_2 < (l0.length : Int)
                · rw [if_pos c8] at H
                  have c8b0 : decide (x23_2 < (l0.length : Int)) = true := decide_eq_true c8
                  clear c8
                  by_cases c9 : x23_2 ≥ 16
                  · rw [if_pos c9] at H
                    have c9b0 : decide (16 ≤ x23_2) = true := decide_eq_true c9
                    clear c9
                    obtain ⟨ji10, hji10⟩ : ∃ j_ : Int, (wrap64 (x23_2 - 16)) = j_ := ⟨_, rfl⟩
                    replace H : (if 0 ≤ (ji10) then (if (ji10) < (l0.length : Int) then (if (wrap64 ((wrap64 (x23_2 + 1)) - x12_2)) ≥ a1 then (if 0 ≤ a2 then (if (Go.bits .and .u32 (((31 * ((x11_2 - (x9_1 * ((rd l0 (ji10)) % 4294967296))) % 4294967296)) + (rd l0 x23_2)) % 4294967296) (((shl .u32 1 a2) - 1) % 4294967296)) = 0 then (if x10_2.length < 17592186044416 then (blob_cut.l1 k2 l0 a1 a2 a3 x9_1 (x10_2 ++ [wrap64 ((wrap64 (x23_2 + 1)) - x12_2)]) (((31 * ((x11_2 - (x9_1 * ((rd l0 (ji10)) % 4294967296))) % 4294967296)) + (rd l0 x23_2)) % 4294967296) (wrap64 (x23_2 + 1)) l0 (l0.length : Int) (wrap64 (x23_2 + 1))) else (none)) else (if (wrap64 ((wrap64 (x23_2 + 1)) - x12_2)) ≥ a3 then (if x10_2.length < 17592186044416 then (blob_cut.l1 k2 l0 a1 a2 a3 x9_1 (x10_2 ++ [wrap64 ((wrap64 (x23_2 + 1)) - x12_2)]) (((31 * ((x11_2 - (x9_1 * ((rd l0 (ji10)) % 4294967296))) % 4294967296)) + (rd l0 x23_2)) % 4294967296) (wrap64 (x23_2 + 1)) l0 (l0.length : Int) (wrap64 (x23_2 + 1))) else (none)) else (blob_cut.l1 k2 l0 a1 a2 a3 x9_1 x10_2 (((31 * ((x11_2 - (x9_1 * ((rd l0 (ji10)) % 4294967296))) % 4294967296)) + (rd l0 x23_2)) % 4294967296) x12_2 l0 (l0.length : Int) (wrap64 (x23_2 + 1))))) else (none)) else (if (wrap64 ((wrap64 (x23_2 + 1)) - x12_2)) ≥ a3 then (if x10_2.length < 17592186044416 then (blob_cut.l1 k2 l0 a1 a2 a3 x9_1 (x10_2 ++ [wrap64 ((wrap64 (x23_2 + 1)) - x12_2)]) (((31 * ((x11_2 - (x9_1 * ((rd l0 (ji10)) % 4294967296))) % 4294967296)) + (rd l0 x23_2)) % 4294967296) (wrap64 (x23_2 + 1)) l0 (l0.length : Int) (wrap64 (x23_2 + 1))) else (none)) else (blob_cut.l1 k2 l0 a1 a2 a3 x9_1 x10_2 (((31 * ((x11_2 - (x9_1 * ((rd l0 (ji10)) % 4294967296))) % 4294967296)) + (rd l0 x23_2)) % 4294967296) x12_2 l0 (l0.length : Int) (wrap64 (x23_2 + 1))))) else (none)) else (none)) = some r := by first | (rw [hji10] at H; exact H) | (simp only [hji10] at H ⊢; exact H)
                    have hji10w : (IntKind.i64.wrap (x23_2 - 16)) = ji10 := (i64_w _).trans hji10
                    by_cases c11 : 0 ≤ (ji10)
                    · rw [if_pos c11] at H
                      have c11b0 : decide (0 ≤ (ji10)) = true := decide_eq_true c11
                      clear c11
                      by_cases c12 : (ji10) < (l0.length : Int)
                      · rw [if_pos c12] at H
                        have c12b0 : decide ((ji10) < (l0.length : Int)) = true := decide_eq_true c12
                        clear c12
                        by_cases c13 : (wrap64 ((wrap64 (x23_2 + 1)) - x12_2)) ≥ a1
                        · rw [if_pos c13] at H
                          have c13b0 : decide (a1 ≤ (wrap64 ((wrap64 (x23_2 + 1)) - x12_2))) = true := decide_eq_true c13
                          clear c13
                          by_cases c14 : 0 ≤ a2
                          · rw [if_pos c14] at H
                            have c14b0 := eq_true c14
                            have c14b1 : decide (0 ≤ a2) = true := decide_eq_true c14
                            clear c14
                            obtain ⟨ji15, hji15⟩ : ∃ j_ : Int, (shl .u32 1 a2) = j_ := ⟨_, rfl⟩
                            replace H : (if (Go.bits .and .u32 (((31 * ((x11_2 - (x9_1 * ((rd l0 (ji10)) % 4294967296))) % 4294967296)) + (rd l0 x23_2)) % 4294967296) (((ji15) - 1) % 4294967296)) = 0 then (if x10_2.length < 17592186044416 then (blob_cut.l1 k2 l0 a1 a2 a3 x9_1 (x10_2 ++ [wrap64 ((wrap64 (x23_2 + 1)) - x12_2)]) (((31 * ((x11_2 - (x9_1 * ((rd l0 (ji10)) % 4294967296))) % 4294967296)) + (rd l0 x23_2)) % 4294967296) (wrap64 (x23_2 + 1)) l0 (l0.length : Int) (wrap64 (x23_2 + 1))) else (none)) else (if (wrap64 ((wrap64 (x23_2 + 1)) - x12_2)) ≥ a3 then (if x10_2.length < 17592186044416 then (blob_cut.l1 k2 l0 a1 a2 a3 x9_1 (x10_2 ++ [wrap64 ((wrap64 (x23_2 + 1)) - x12_2)]) (((31 * ((x11_2 - (x9_1 * ((rd l0 (ji10)) % 4294967296))) % 4294967296)) + (rd l0 x23_2)) % 4294967296) (wrap64 (x23_2 + 1)) l0 (l0.length : Int) (wrap64 (x23_2 + 1))) else (none)) else (blob_cut.l1 k2 l0 a1 a2 a3 x9_1 x10_2 (((31 * ((x11_2 - (x9_1 * ((rd l0 (ji10)) % 4294967296))) % 4294967296)) + (rd l0 x23_2)) % 4294967296) x12_2 l0 (l0.length : Int) (wrap64 (x23_2 + 1))))) = some r := by first | (rw [hji15] at H; exact H) | (simp only [hji15] at H ⊢; exact H)
                            have hji15_ : (IntKind.u32.wrap (1 * 2 ^ min a2.toNat 32)) = ji15 := hji15
                            have hji15z : a2 ≤ 32 → (IntKind.u32.wrap (1 * 2 ^ a2.toNat)) = ji15 := shl_small hji15
                            have hji15u : (IntKind.u32.wrap (2 ^ min a2.toNat 32)) = ji15 := by have h_ := hji15_; rw [Int.one_mul] at h_; exact h_
                            have hji15v : a2 ≤ 32 → (IntKind.u32.wrap (2 ^ a2.toNat)) = ji15 := fun hle_ => by have h_ := hji15z hle_; rw [Int.one_mul] at h_; exact h_
                            by_cases c16 : (Go.bits .and .u32 (((31 * ((x11_2 - (x9_1 * ((rd l0 (ji10)) % 4294967296))) % 4294967296)) + (rd l0 x23_2)) % 4294967296) (((ji15) - 1) % 4294967296)) = 0
                            · rw [if_pos c16] at H
                              have c16b0 : ((Go.bits .and .u32 (((31 * ((x11_2 - (x9_1 * ((rd l0 (ji10)) % 4294967296))) % 4294967296)) + (rd l0 x23_2)) % 4294967296) (((ji15) - 1) % 4294967296)) == 0) = true := beq_iff_eq.mpr c16
                              have c16b1 : ((Go.bits .and .u32 (((31 * ((x11_2 - (x9_1 * ((rd l0 (ji10)) % 4294967296))) % 4294967296)) + (rd l0 x23_2)) % 4294967296) (((ji15) - 1) % 4294967296)) != 0) = false := bne_eq_false_iff_eq.mpr c16
                              clear c16
                              by_cases c17 : x10_2.length < 17592186044416
                              · rw [if_pos c17] at H
                                have LMc17 := Aside0.mk c17
                                clear c17
                                obtain ⟨y114, hy114⟩ : ∃ y_ : List Int, y_ = (x10_2 ++ [wrap64 ((wrap64 (x23_2 + 1)) - x12_2)]) := ⟨_, rfl⟩
                                replace H : (blob_cut.l1 k2 l0 a1 a2 a3 x9_1 y114 (((31 * ((x11_2 - (x9_1 * ((rd l0 (ji10)) % 4294967296))) % 4294967296)) + (rd l0 x23_2)) % 4294967296) (wrap64 (x23_2 + 1)) l0 (l0.length : Int) (wrap64 (x23_2 + 1))) = some r := by first | (rw [hy114]; with_reducible exact H) | (have H2_ := (Option.bind_some _ _).symm.trans H; rw [hy114]; with_reducible exact H2_) | (have H2_ := (Option.bind_some _ _).symm.trans H; with_reducible exact H2_) | with_reducible exact H | (rw [hy114]; exact H) | exact H
                                have Ny114 := Aside0.mk hy114
                                clear hy114
                                have H' := Aside0.mk H
                                clear H
                                have p112 : 0 ≤ (x23_2 : Int) := of_decide_eq_true (by first | (with_reducible assumption) | assumption)
                                have q112 : x23_2 < (l0.length : Int) := of_decide_eq_true (by first | (with_reducible assumption) | assumption)
                                obtain ⟨ad112, e112, hx112_0⟩ := Kd.at_int HR0.out x23_2 p112 q112
                                cases e112
                                replace hx112_0 := (HB.out.cell (World.block_lt_of_cell? w _ hx112_0)).trans hx112_0
                                replace p112 := eq_true p112
                                replace q112 := eq_true q112
                                have p113 : 0 ≤ ((ji10) : Int) := of_decide_eq_true (by first | (with_reducible assumption) | assumption)
                                have q113 : (ji10) < (l0.length : Int) := of_decide_eq_true (by first | (with_reducible assumption) | assumption)
                                obtain ⟨ad113, e113, hx113_0⟩ := Kd.at_int HR0.out (ji10) p113 q113
                                obtain rfl : ad112 = ad113 := (by injection e113)
                                replace hx113_0 := (HB.out.cell (World.block_lt_of_cell? w _ hx113_0)).trans hx113_0
                                replace p113 := eq_true p113
                                replace q113 := eq_true q113
                                go_wp2_with (first | ((with_reducible refine gate_builtin (b := .append) (xs := #[.tmp 65, .tmp 67]) rfl ?_); at_builtin; refine Kd.R_append (Kd.int .i64) (w0 := w) w.heap.size rfl (.tmp 65) (.tmp 67) 28 3 (.int .i64 0) 8 rfl Try.underlying28 info3 rfl (by decide) (by omega) u10 x10_2 (wrap64 ((wrap64 (x23_2 + 1)) - x12_2)) [.int .i64 (wrap64 ((wrap64 (x23_2 + 1)) - x12_2))] (fun _ => True) (fun _ => False) rfl rfl ?aP (fun _ hk => hk.elim) ?aF ?aO ?aB ?aS ?aL ?_; (case aP => exact rfl); (case aB => exact (by repeat (first | (with_reducible first | exact HB.out | apply below_alloc | apply pw_below_drewN | apply below_drew1) | exact HB.out))); (case aF => exact (fun _ _ => trivial)); (case aO => exact (by (with_reducible repeat (first | apply Kd.R_alloc | apply Kd.R_drewN | apply Kd.R_drew)); exact HO_10.out)); (case aS => exact (below_size (by repeat (first | (with_reducible first | exact HB.out | apply below_alloc | apply pw_below_drewN | apply below_drew1) | exact HB.out)))); (case aL => have := LMc17.out; omega); intro v115 w18 ho hb hg hat; rw [← Ny114.out] at ho; have n0_ := Aside0.mk (hb); have n1_ := Aside0.mk (ho); clear HB; clear HO_10; have HB := n0_; have HO116 := n1_; clear n0_ n1_; clear ho hb hg hat))
                                go_roundg k2
                                case measure => have := HK1.out; have := HK2.out; omega
                                case rel => exact ⟨(y114), (((31 * ((x11_2 - (x9_1 * ((rd l0 (ji10)) % 4294967296))) % 4294967296)) + (rd l0 x23_2)) % 4294967296), (wrap64 (x23_2 + 1)), (wrap64 (x23_2 + 1)), (by first | rfl | (simp; done) | (simp only [← hji10] <;> (first | rfl | simp)) | (simp [*]; done)), (by first | rfl | (simp; done) | (simp [*]; done)), (by first | rfl | (simp; done) | (simp [*]; done)), H', ⟨by have := HK1.out; have := HK2.out; omega⟩, ⟨by (with_reducible repeat (first | apply Kd.R_alloc | apply Kd.R_drewN | apply Kd.R_drew)); exact HO116.out⟩, ⟨by repeat (first | (with_reducible first | exact HB.out | apply below_alloc | apply pw_below_drewN | apply below_drew1) | exact HB.out)⟩⟩
                              · rw [if_neg c17] at H
                                exact absurd H (by simp)
                            · rw [if_neg c16] at H
                              have c16b0 : ((Go.bits .and .u32 (((31 * ((x11_2 - (x9_1 * ((rd l0 (ji10)) % 4294967296))) % 4294967296)) + (rd l0 x23_2)) % 4294967296) (((ji15) - 1) % 4294967296)) == 0) = false := beq_eq_false_iff_ne.mpr c16
                              have c16b1 : ((Go.bits .and .u32 (((31 * ((x11_2 - (x9_1 * ((rd l0 (ji10)) % 4294967296))) % 4294967296)) + (rd l0 x23_2)) % 4294967296) (((ji15) - 1) % 4294967296)) != 0) = true := bne_iff_ne.mpr c16
                              by_cases c19 : (wrap64 ((wrap64 (x23_2 + 1)) - x12_2)) ≥ a3
                              · rw [if_pos c19] at H
                                have c19b0 : decide (a3 ≤ (wrap64 ((wrap64 (x23_2 + 1)) - x12_2))) = true := decide_eq_true c19
                                clear c19
                                by_cases c20 : x10_2.length < 17592186044416
                                · rw [if_pos c20] at H
                                  have LMc20 := Aside0.mk c20
                                  clear c20
                                  obtain ⟨y117, hy117⟩ : ∃ y_ : List Int, y_ = (x10_2 ++ [wrap64 ((wrap64 (x23_2 + 1)) - x12_2)]) := ⟨_, rfl⟩
                                  replace H : (blob_cut.l1 k2 l0 a1 a2 a3 x9_1 y117 (((31 * ((x11_2 - (x9_1 * ((rd l0 (ji10)) % 4294967296))) % 4294967296)) + (rd l0 x23_2)) % 4294967296) (wrap64 (x23_2 + 1)) l0 (l0.length : Int) (wrap64 (x23_2 + 1))) = some r := by first | (rw [hy117]; with_reducible exact H) | (have H2_ := (Option.bind_some _ _).symm.trans H; rw [hy117]; with_reducible exact H2_) | (have H2_ := (Option.bind_some _ _).symm.trans H; with_reducible exact H2_) | with_reducible exact H | (rw [hy117]; exact H) | exact H
                                  have Ny117 := Aside0.mk hy117
                                  clear hy117
                                  have H' := Aside0.mk H
                                  clear H
                                  have p112 : 0 ≤ (x23_2 : Int) := of_decide_eq_true (by first | (with_reducible assumption) | assumption)
                                  have q112 : x23_2 < (l0.length : Int) := of_decide_eq_true (by first | (with_reducible assumption) | assumption)
                                  obtain ⟨ad112, e112, hx112_0⟩ := Kd.at_int HR0.out x23_2 p112 q112
                                  cases e112
                                  replace hx112_0 := (HB.out.cell (World.block_lt_of_cell? w _ hx112_0)).trans hx112_0
                                  replace p112 := eq_true p112
                                  replace q112 := eq_true q112
                                  have p113 : 0 ≤ ((ji10) : Int) := of_decide_eq_true (by first | (with_reducible assumption) | assumption)
                                  have q113 : (ji10) < (l0.length : Int) := of_decide_eq_true (by first | (with_reducible assumption) | assumption)
                                  obtain ⟨ad113, e113, hx113_0⟩ := Kd.at_int HR0.out (ji10) p113 q113
                                  obtain rfl : ad112 = ad113 := (by injection e113)
                                  replace hx113_0 := (HB.out.cell (World.block_lt_of_cell? w _ hx113_0)).trans hx113_0
                                  replace p113 := eq_true p113
                                  replace q113 := eq_true q113
                                  go_wp2_with (first | ((with_reducible refine gate_builtin (b := .append) (xs := #[.tmp 65, .tmp 67]) rfl ?_); at_builtin; refine Kd.R_append (Kd.int .i64) (w0 := w) w.heap.size rfl (.tmp 65) (.tmp 67) 28 3 (.int .i64 0) 8 rfl Try.underlying28 info3 rfl (by decide) (by omega) u10 x10_2 (wrap64 ((wrap64 (x23_2 + 1)) - x12_2)) [.int .i64 (wrap64 ((wrap64 (x23_2 + 1)) - x12_2))] (fun _ => True) (fun _ => False) rfl rfl ?aP (fun _ hk => hk.elim) ?aF ?aO ?aB ?aS ?aL ?_; (case aP => exact rfl); (case aB => exact (by repeat (first | (with_reducible first | exact HB.out | apply below_alloc | apply pw_below_drewN | apply below_drew1) | exact HB.out))); (case aF => exact (fun _ _ => trivial)); (case aO => exact (by (with_reducible repeat (first | apply Kd.R_alloc | apply Kd.R_drewN | apply Kd.R_drew)); exact HO_10.out)); (case aS => exact (below_size (by repeat (first | (with_reducible first | exact HB.out | apply below_alloc | apply pw_below_drewN | apply below_drew1) | exact HB.out)))); (case aL => have := LMc20.out; omega); intro v118 w21 ho hb hg hat; rw [← Ny117.out] at ho; have n0_ := Aside0.mk (hb); have n1_ := Aside0.mk (ho); clear HB; clear HO_10; have HB := n0_; have HO119 := n1_; clear n0_ n1_; clear ho hb hg hat))
                                  go_roundg k2
                                  case measure => have := HK1.out; have := HK2.out; omega
                                  case rel => exact ⟨(y117), (((31 * ((x11_2 - (x9_1 * ((rd l0 (ji10)) % 4294967296))) % 4294967296)) + (rd l0 x23_2)) % 4294967296), (wrap64 (x23_2 + 1)), (wrap64 (x23_2 + 1)), (by first | rfl | (simp; done) | (simp only [← hji10] <;> (first | rfl | simp)) | (simp [*]; done)), (by first | rfl | (simp; done) | (simp [*]; done)), (by first | rfl | (simp; done) | (simp [*]; done)), H', ⟨by have := HK1.out; have := HK2.out; omega⟩, ⟨by (with_reducible repeat (first | apply Kd.R_alloc | apply Kd.R_drewN | apply Kd.R_drew)); exact HO119.out⟩, ⟨by repeat (first | (with_reducible first | exact HB.out | apply below_alloc | apply pw_below_drewN | apply below_drew1) | exact HB.out)⟩⟩
                                · rw [if_neg c20] at H
                                  exact absurd H (by simp)
                              · rw [if_neg c19] at H
                                have c19b0 : decide (a3 ≤ (wrap64 ((wrap64 (x23_2 + 1)) - x12_2))) = false := decide_eq_false c19
                                clear c19
                                have H' := Aside0.mk H
                                clear H
                                have p112 : 0 ≤ (x23_2 : Int) := of_decide_eq_true (by first | (with_reducible assumption) | assumption)
                                have q112 : x23_2 < (l0.length : Int) := of_decide_eq_true (by first | (with_reducible assumption) | assumption)
                                obtain ⟨ad112, e112, hx112_0⟩ := Kd.at_int HR0.out x23_2 p112 q112
                                cases e112
                                replace hx112_0 := (HB.out.cell (World.block_lt_of_cell? w _ hx112_0)).trans hx112_0
                                replace p112 := eq_true p112
                                replace q112 := eq_true q112
                                have p113 : 0 ≤ ((ji10) : Int) := of_decide_eq_true (by first | (with_reducible assumption) | assumption)
                                have q113 : (ji10) < (l0.length : Int) := of_decide_eq_true (by first | (with_reducible assumption) | assumption)
                                obtain ⟨ad113, e113, hx113_0⟩ := Kd.at_int HR0.out (ji10) p113 q113
                                obtain rfl : ad112 = ad113 := (by injection e113)
                                replace hx113_0 := (HB.out.cell (World.block_lt_of_cell? w _ hx113_0)).trans hx113_0
                                replace p113 := eq_true p113
                                replace q113 := eq_true q113
                                go_wp2
                                go_roundg k2
                                case measure => have := HK1.out; have := HK2.out; omega
                                case rel => exact ⟨(x10_2), (((31 * ((x11_2 - (x9_1 * ((rd l0 (ji10)) % 4294967296))) % 4294967296)) + (rd l0 x23_2)) % 4294967296), (x12_2), (wrap64 (x23_2 + 1)), (by first | rfl | (simp; done) | (simp only [← hji10] <;> (first | rfl | simp)) | (simp [*]; done)), (by first | rfl | (simp; done) | (simp [*]; done)), (by first | rfl | (simp; done) | (simp [*]; done)), H', ⟨by have := HK1.out; have := HK2.out; omega⟩, ⟨by (with_reducible repeat (first | apply Kd.R_alloc | apply Kd.R_drewN | apply Kd.R_drew)); exact HO_10.out⟩, ⟨by repeat (first | (with_reducible first | exact HB.out | apply below_alloc | apply pw_below_drewN | apply below_drew1) | exact HB.out)⟩⟩
                          · rw [if_neg c14] at H
                            exact absurd H (by simp)
                        · rw [if_neg c13] at H
                          have c13b0 : decide (a1 ≤ (wrap64 ((wrap64 (x23_2 + 1)) - x12_2))) = false := decide_eq_false c13
                          clear c13
                          by_cases c22 : (wrap64 ((wrap64 (x23_2 + 1)) - x12_2)) ≥ a3
                          · rw [if_pos c22] at H
                            have c22b0 : decide (a3 ≤ (wrap64 ((wrap64 (x23_2 + 1)) - x12_2))) = true := decide_eq_true c22
                            clear c22
                            by_cases c23 : x10_2.length < 17592186044416
                            · rw [if_pos c23] at H
                              have LMc23 := Aside0.mk c23
                              clear c23
                              obtain ⟨y120, hy120⟩ : ∃ y_ : List Int, y_ = (x10_2 ++ [wrap64 ((wrap64 (x23_2 + 1)) - x12_2)]) := ⟨_, rfl⟩
                              replace H : (blob_cut.l1 k2 l0 a1 a2 a3 x9_1 y120 (((31 * ((x11_2 - (x9_1 * ((rd l0 (ji10)) % 4294967296))) % 4294967296)) + (rd l0 x23_2)) % 4294967296) (wrap64 (x23_2 + 1)) l0 (l0.length : Int) (wrap64 (x23_2 + 1))) = some r := by first | (rw [hy120]; with_reducible exact H) | (have H2_ := (Option.bind_some _ _).symm.trans H; rw [hy120]; with_reducible exact H2_) | (have H2_ := (Option.bind_some _ _).symm.trans H; with_reducible exact H2_) | with_reducible exact H | (rw [hy120]; exact H) | exact H
                              have Ny120 := Aside0.mk hy120
                              clear hy120
                              have H' := Aside0.mk H
                              clear H
                              have p112 : 0 ≤ (x23_2 : Int) := of_decide_eq_true (by first | (with_reducible assumption) | assumption)
                              have q112 : x23_2 < (l0.length : Int) := of_decide_eq_true (by first | (with_reducible assumption) | assumption)
                              obtain ⟨ad112, e112, hx112_0⟩ := Kd.at_int HR0.out x23_2 p112 q112
                              cases e112
                              replace hx112_0 := (HB.out.cell (World.block_lt_of_cell? w _ hx112_0)).trans hx112_0
                              replace p112 := eq_true p112
                              replace q112 := eq_true q112
                              have p113 : 0 ≤ ((ji10) : Int) := of_decide_eq_true (by first | (with_reducible assumption) | assumption)
                              have q113 : (ji10) < (l0.length : Int) := of_decide_eq_true (by first | (with_reducible assumption) | assumption)
                              obtain ⟨ad113, e113, hx113_0⟩ := Kd.at_int HR0.out (ji10) p113 q113
                              obtain rfl : ad112 = ad113 := (by injection e113)
                              replace hx113_0 := (HB.out.cell (World.block_lt_of_cell? w _ hx113_0)).trans hx113_0
                              replace p113 := eq_true p113
                              replace q113 := eq_true q113
                              go_wp2_with (first | ((with_reducible refine gate_builtin (b := .append) (xs := #[.tmp 65, .tmp 67]) rfl ?_); at_builtin; refine Kd.R_append (Kd.int .i64) (w0 := w) w.heap.size rfl (.tmp 65) (.tmp 67) 28 3 (.int .i64 0) 8 rfl Try.underlying28 info3 rfl (by decide) (by omega) u10 x10_2 (wrap64 ((wrap64 (x23_2 + 1)) - x12_2)) [.int .i64 (wrap64 ((wrap64 (x23_2 + 1)) - x12_2))] (fun _ => True) (fun _ => False) rfl rfl ?aP (fun _ hk => hk.elim) ?aF ?aO ?aB ?aS ?aL ?_; (case aP => exact rfl); (case aB => exact (by repeat (first | (with_reducible first | exact HB.out | apply below_alloc | apply pw_below_drewN | apply below_drew1) | exact HB.out))); (case aF => exact (fun _ _ => trivial)); (case aO => exact (by (with_reducible repeat (first | apply Kd.R_alloc | apply Kd.R_drewN | apply Kd.R_drew)); exact HO_10.out)); (case aS => exact (below_size (by repeat (first | (with_reducible first | exact HB.out | apply below_alloc | apply pw_below_drewN | apply below_drew1) | exact HB.out)))); (case aL => have := LMc23.out; omega); intro v121 w24 ho hb hg hat; rw [← Ny120.out] at ho; have n0_ := Aside0.mk (hb); have n1_ := Aside0.mk (ho); clear HB; clear HO_10; have HB := n0_; have HO122 := n1_; clear n0_ n1_; clear ho hb hg hat))
                              go_roundg k2
                              case measure => have := HK1.out; have := HK2.out; omega
                              case rel => exact ⟨(y120), (((31 * ((x11_2 - (x9_1 * ((rd l0 (ji10)) % 4294967296))) % 4294967296)) + (rd l0 x23_2)) % 4294967296), (wrap64 (x23_2 + 1)), (wrap64 (x23_2 + 1)), (by first | rfl | (simp; done) | (simp only [← hji10] <;> (first | rfl | simp)) | (simp [*]; done)), (by first | rfl | (simp; done) | (simp [*]; done)), (by first | rfl | (simp; done) | (simp [*]; done)), H', ⟨by have := HK1.out; have := HK2.out; omega⟩, ⟨by (with_reducible repeat (first | apply Kd.R_alloc | apply Kd.R_drewN | apply Kd.R_drew)); exact HO122.out⟩, ⟨by repeat (first | (with_reducible first | exact HB.out | apply below_alloc | apply pw_below_drewN | apply below_drew1) | exact HB.out)⟩⟩
                            · rw [if_neg c23] at H
                              exact absurd H (by simp)
                          · rw [if_neg c22] at H
                            have c22b0 : decide (a3 ≤ (wrap64 ((wrap64 (x23_2 + 1)) - x12_2))) = false := decide_eq_false c22
                            clear c22
                            have H' := Aside0.mk H
                            clear H
                            have p112 : 0 ≤ (x23_2 : Int) := of_decide_eq_true (by first | (with_reducible assumption) | assumption)
                            have q112 : x23_2 < (l0.length : Int) := of_decide_eq_true (by first | (with_reducible assumption) | assumption)
                            obtain ⟨ad112, e112, hx112_0⟩ := Kd.at_int HR0.out x23_2 p112 q112
                            cases e112
                            replace hx112_0 := (HB.out.cell (World.block_lt_of_cell? w _ hx112_0)).trans hx112_0
                            replace p112 := eq_true p112
                            replace q112 := eq_true q112
                            have p113 : 0 ≤ ((ji10) : Int) := of_decide_eq_true (by first | (with_reducible assumption) | assumption)
                            have q113 : (ji10) < (l0.length : Int) := of_decide_eq_true (by first | (with_reducible assumption) | assumption)
                            obtain ⟨ad113, e113, hx113_0⟩ := Kd.at_int HR0.out (ji10) p113 q113
                            obtain rfl : ad112 = ad113 := (by injection e113)
                            replace hx113_0 := (HB.out.cell (World.block_lt_of_cell? w _ hx113_0)).trans hx113_0
                            replace p113 := eq_true p113
                            replace q113 := eq_true q113
                            go_wp2
                            go_roundg k2
                            case measure => have := HK1.out; have := HK2.out; omega
                            case rel => exact ⟨(x10_2), (((31 * ((x11_2 - (x9_1 * ((rd l0 (ji10)) % 4294967296))) % 4294967296)) + (rd l0 x23_2)) % 4294967296), (x12_2), (wrap64 (x23_2 + 1)), (by first | rfl | (simp; done) | (simp only [← hji10] <;> (first | rfl | simp)) | (simp [*]; done)), (by first | rfl | (simp; done) | (simp [*]; done)), (by first | rfl | (simp; done) | (simp [*]; done)), H', ⟨by have := HK1.out; have := HK2.out; omega⟩, ⟨by (with_reducible repeat (first | apply Kd.R_alloc | apply Kd.R_drewN | apply Kd.R_drew)); exact HO_10.out⟩, ⟨by repeat (first | (with_reducible first | exact HB.out | apply below_alloc | apply pw_below_drewN | apply below_drew1) | exact HB.out)⟩⟩
                      · rw [if_neg c12] at H
                        exact absurd H (by simp)
                    · rw [if_neg c11] at H
                      exact absurd H (by simp)
                  · rw [if_neg c9] at H
                    have c9b0 : decide (16 ≤ x23_2) = false := decide_eq_false c9
                    clear c9
                    by_cases c25 : (wrap64 ((wrap64 (x23_2 + 1)) - x12_2)) ≥ a1
                    · rw [if_pos c25] at H
                      have c25b0 : decide (a1 ≤ (wrap64 ((wrap64 (x23_2 + 1)) - x12_2))) = true := decide_eq_true c25
                      clear c25
                      by_cases c26 : 0 ≤ a2
                      · rw [if_pos c26] at H
                        have c26b0 := eq_true c26
                        have c26b1 : decide (0 ≤ a2) = true := decide_eq_true c26
                        clear c26
                        obtain ⟨ji27, hji27⟩ : ∃ j_ : Int, (shl .u32 1 a2) = j_ := ⟨_, rfl⟩
                        replace H : (if (Go.bits .and .u32 (((31 * x11_2) + (rd l0 x23_2)) % 4294967296) (((ji27) - 1) % 4294967296)) = 0 then (if x10_2.length < 17592186044416 then (blob_cut.l1 k2 l0 a1 a2 a3 x9_1 (x10_2 ++ [wrap64 ((wrap64 (x23_2 + 1)) - x12_2)]) (((31 * x11_2) + (rd l0 x23_2)) % 4294967296) (wrap64 (x23_2 + 1)) l0 (l0.length : Int) (wrap64 (x23_2 + 1))) else (none)) else (if (wrap64 ((wrap64 (x23_2 + 1)) - x12_2)) ≥ a3 then (if x10_2.length < 17592186044416 then (blob_cut.l1 k2 l0 a1 a2 a3 x9_1 (x10_2 ++ [wrap64 ((wrap64 (x23_2 + 1)) - x12_2)]) (((31 * x11_2) + (rd l0 x23_2)) % 4294967296) (wrap64 (x23_2 + 1)) l0 (l0.length : Int) (wrap64 (x23_2 + 1))) else (none)) else (blob_cut.l1 k2 l0 a1 a2 a3 x9_1 x10_2 (((31 * x11_2) + (rd l0 x23_2)) % 4294967296) x12_2 l0 (l0.length : Int) (wrap64 (x23_2 + 1))))) = some r := by first | (rw [hji27] at H; exact H) | (simp only [hji27] at H ⊢; exact H)
                        have hji27_ : (IntKind.u32.wrap (1 * 2 ^ min a2.toNat 32)) = ji27 := hji27
                        have hji27z : a2 ≤ 32 → (IntKind.u32.wrap (1 * 2 ^ a2.toNat)) = ji27 := shl_small hji27
                        have hji27u : (IntKind.u32.wrap (2 ^ min a2.toNat 32)) = ji27 := by have h_ := hji27_; rw [Int.one_mul] at h_; exact h_
                        have hji27v : a2 ≤ 32 → (IntKind.u32.wrap (2 ^ a2.toNat)) = ji27 := fun hle_ => by have h_ := hji27z hle_; rw [Int.one_mul] at h_; exact h_
                        by_cases c28 : (Go.bits .and .u32 (((31 * x11_2) + (rd l0 x23_2)) % 4294967296) (((ji27) - 1) % 4294967296)) = 0
                        · rw [if_pos c28] at H
                          have c28b0 : ((Go.bits .and .u32 (((31 * x11_2) + (rd l0 x23_2)) % 4294967296) (((ji27) - 1) % 4294967296)) == 0) = true := beq_iff_eq.mpr c28
                          have c28b1 : ((Go.bits .and .u32 (((31 * x11_2) + (rd l0 x23_2)) % 4294967296) (((ji27) - 1) % 4294967296)) != 0) = false := bne_eq_false_iff_eq.mpr c28
                          clear c28
                          by_cases c29 : x10_2.length < 17592186044416
                          · rw [if_pos c29] at H
                            have LMc29 := Aside0.mk c29
                            clear c29
                            obtain ⟨y123, hy123⟩ : ∃ y_ : List Int, y_ = (x10_2 ++ [wrap64 ((wrap64 (x23_2 + 1)) - x12_2)]) := ⟨_, rfl⟩
                            replace H : (blob_cut.l1 k2 l0 a1 a2 a3 x9_1 y123 (((31 * x11_2) + (rd l0 x23_2)) % 4294967296) (wrap64 (x23_2 + 1)) l0 (l0.length : Int) (wrap64 (x23_2 + 1))) = some r := by first | (rw [hy123]; with_reducible exact H) | (have H2_ := (Option.bind_some _ _).symm.trans H; rw [hy123]; with_reducible exact H2_) | (have H2_ := (Option.bind_some _ _).symm.trans H; with_reducible exact H2_) | with_reducible exact H | (rw [hy123]; exact H) | exact H
                            have Ny123 := Aside0.mk hy123
                            clear hy123
                            have H' := Aside0.mk H
                            clear H
                            have p112 : 0 ≤ (x23_2 : Int) := of_decide_eq_true (by first | (with_reducible assumption) | assumption)
                            have q112 : x23_2 < (l0.length : Int) := of_decide_eq_true (by first | (with_reducible assumption) | assumption)
                            obtain ⟨ad112, e112, hx112_0⟩ := Kd.at_int HR0.out x23_2 p112 q112
                            cases e112
                            replace hx112_0 := (HB.out.cell (World.block_lt_of_cell? w _ hx112_0)).trans hx112_0
                            replace p112 := eq_true p112
                            replace q112 := eq_true q112
                            go_wp2_with (first | ((with_reducible refine gate_builtin (b := .append) (xs := #[.tmp 65, .tmp 67]) rfl ?_); at_builtin; refine Kd.R_append (Kd.int .i64) (w0 := w) w.heap.size rfl (.tmp 65) (.tmp 67) 28 3 (.int .i64 0) 8 rfl Try.underlying28 info3 rfl (by decide) (by omega) u10 x10_2 (wrap64 ((wrap64 (x23_2 + 1)) - x12_2)) [.int .i64 (wrap64 ((wrap64 (x23_2 + 1)) - x12_2))] (fun _ => True) (fun _ => False) rfl rfl ?aP (fun _ hk => hk.elim) ?aF ?aO ?aB ?aS ?aL ?_; (case aP => exact rfl); (case aB => exact (by repeat (first | (with_reducible first | exact HB.out | apply below_alloc | apply pw_below_drewN | apply below_drew1) | exact HB.out))); (case aF => exact (fun _ _ => trivial)); (case aO => exact (by (with_reducible repeat (first | apply Kd.R_alloc | apply Kd.R_drewN | apply Kd.R_drew)); exact HO_10.out)); (case aS => exact (below_size (by repeat (first | (with_reducible first | exact HB.out | apply below_alloc | apply pw_below_drewN | apply below_drew1) | exact HB.out)))); (case aL => have := LMc29.out; omega); intro v124 w30 ho hb hg hat; rw [← Ny123.out] at ho; have n0_ := Aside0.mk (hb); have n1_ := Aside0.mk (ho); clear HB; clear HO_10; have HB := n0_; have HO125 := n1_; clear n0_ n1_; clear ho hb hg hat))
                            go_roundg k2
                            case measure => have := HK1.out; have := HK2.out; omega
                            case rel => exact ⟨(y123), (((31 * x11_2) + (rd l0 x23_2)) % 4294967296), (wrap64 (x23_2 + 1)), (wrap64 (x23_2 + 1)), (by first | rfl | (simp; done) | (simp [*]; done)), (by first | rfl | (simp; done) | (simp [*]; done)), (by first | rfl | (simp; done) | (simp [*]; done)), H', ⟨by have := HK1.out; have := HK2.out; omega⟩, ⟨by (with_reducible repeat (first | apply Kd.R_alloc | apply Kd.R_drewN | apply Kd.R_drew)); exact HO125.out⟩, ⟨by repeat (first | (with_reducible first | exact HB.out | apply below_alloc | apply pw_below_drewN | apply below_drew1) | exact HB.out)⟩⟩
                          · rw [if_neg c29] at H
                            exact absurd H (by simp)
                        · rw [if_neg c28] at H
                          have c28b0 : ((Go.bits .and .u32 (((31 * x11_2) + (rd l0 x23_2)) % 4294967296) (((ji27) - 1) % 4294967296)) == 0) = false := beq_eq_false_iff_ne.mpr c28
                          have c28b1 : ((Go.bits .and .u32 (((31 * x11_2) + (rd l0 x23_2)) % 4294967296) (((ji27) - 1) % 4294967296)) != 0) = true := bne_iff_ne.mpr c28
                          by_cases c31 : (wrap64 ((wrap64 (x23_2 + 1)) - x12_2)) ≥ a3
                          · rw [if_pos c31] at H
                            have c31b0 : decide (a3 ≤ (wrap64 ((wrap64 (x23_2 + 1)) - x12_2))) = true := decide_eq_true c31
                            clear c31
                            by_cases c32 : x10_2.length < 17592186044416
                            · rw [if_pos c32] at H
                              have LMc32 := Aside0.mk c32
                              clear c32
                              obtain ⟨y126, hy126⟩ : ∃ y_ : List Int, y_ = (x10_2 ++ [wrap64 ((wrap64 (x23_2 + 1)) - x12_2)]) := ⟨_, rfl⟩
                              replace H : (blob_cut.l1 k2 l0 a1 a2 a3 x9_1 y126 (((31 * x11_2) + (rd l0 x23_2)) % 4294967296) (wrap64 (x23_2 + 1)) l0 (l0.length : Int) (wrap64 (x23_2 + 1))) = some r := by first | (rw [hy126]; with_reducible exact H) | (have H2_ := (Option.bind_some _ _).symm.trans H; rw [hy126]; with_reducible exact H2_) | (have H2_ := (Option.bind_some _ _).symm.trans H; with_reducible exact H2_) | with_reducible exact H | (rw [hy126]; exact H) | exact H
                              have Ny126 := Aside0.mk hy126
                              clear hy126
                              have H' := Aside0.mk H
                              clear H
                              have p112 : 0 ≤ (x23_2 : Int) := of_decide_eq_true (by first | (with_reducible assumption) | assumption)
                              have q112 : x23_2 < (l0.length : Int) := of_decide_eq_true (by first | (with_reducible assumption) | assumption)
                              obtain ⟨ad112, e112, hx112_0⟩ := Kd.at_int HR0.out x23_2 p112 q112
                              cases e112
                              replace hx112_0 := (HB.out.cell (World.block_lt_of_cell? w _ hx112_0)).trans hx112_0
                              replace p112 := eq_true p112
                              replace q112 := eq_true q112
                              go_wp2_with (first | ((with_reducible refine gate_builtin (b := .append) (xs := #[.tmp 65, .tmp 67]) rfl ?_); at_builtin; refine Kd.R_append (Kd.int .i64) (w0 := w) w.heap.size rfl (.tmp 65) (.tmp 67) 28 3 (.int .i64 0) 8 rfl Try.underlying28 info3 rfl (by decide) (by omega) u10 x10_2 (wrap64 ((wrap64 (x23_2 + 1)) - x12_2)) [.int .i64 (wrap64 ((wrap64 (x23_2 + 1)) - x12_2))] (fun _ => True) (fun _ => False) rfl rfl ?aP (fun _ hk => hk.elim) ?aF ?aO ?aB ?aS ?aL ?_; (case aP => exact rfl); (case aB => exact (by repeat (first | (with_reducible first | exact HB.out | apply below_alloc | apply pw_below_drewN | apply below_drew1) | exact HB.out))); (case aF => exact (fun _ _ => trivial)); (case aO => exact (by (with_reducible repeat (first | apply Kd.R_alloc | apply Kd.R_drewN | apply Kd.R_drew)); exact HO_10.out)); (case aS => exact (below_size (by repeat (first | (with_reducible first | exact HB.out | apply below_alloc | apply pw_below_drewN | apply below_drew1) | exact HB.out)))); (case aL => have := LMc32.out; omega); intro v127 w33 ho hb hg hat; rw [← Ny126.out] at ho; have n0_ := Aside0.mk (hb); have n1_ := Aside0.mk (ho); clear HB; clear HO_10; have HB := n0_; have HO128 := n1_; clear n0_ n1_; clear ho hb hg hat))
                              go_roundg k2
                              case measure => have := HK1.out; have := HK2.out; omega
                              case rel => exact ⟨(y126), (((31 * x11_2) + (rd l0 x23_2)) % 4294967296), (wrap64 (x23_2 + 1)), (wrap64 (x23_2 + 1)), (by first | rfl | (simp; done) | (simp [*]; done)), (by first | rfl | (simp; done) | (simp [*]; done)), (by first | rfl | (simp; done) | (simp [*]; done)), H', ⟨by have := HK1.out; have := HK2.out; omega⟩, ⟨by (with_reducible repeat (first | apply Kd.R_alloc | apply Kd.R_drewN | apply Kd.R_drew)); exact HO128.out⟩, ⟨by repeat (first | (with_reducible first | exact HB.out | apply below_alloc | apply pw_below_drewN | apply below_drew1) | exact HB.out)⟩⟩
                            · rw [if_neg c32] at H
                              exact absurd H (by simp)
                          · rw [if_neg c31] at H
                            have c31b0 : decide (a3 ≤ (wrap64 ((wrap64 (x23_2 + 1)) - x12_2))) = false := decide_eq_false c31
                            clear c31
                            have H' := Aside0.mk H
                            clear H
                            have p112 : 0 ≤ (x23_2 : Int) := of_decide_eq_true (by first | (with_reducible assumption) | assumption)
                            have q112 : x23_2 < (l0.length : Int) := of_decide_eq_true (by first | (with_reducible assumption) | assumption)
                            obtain ⟨ad112, e112, hx112_0⟩ := Kd.at_int HR0.out x23_2 p112 q112
                            cases e112
                            replace hx112_0 := (HB.out.cell (World.block_lt_of_cell? w _ hx112_0)).trans hx112_0
                            replace p112 := eq_true p112
                            replace q112 := eq_true q112
                            go_wp2
                            go_roundg k2
                            case measure => have := HK1.out; have := HK2.out; omega
                            case rel => exact ⟨(x10_2), (((31 * x11_2) + (rd l0 x23_2)) % 4294967296), (x12_2), (wrap64 (x23_2 + 1)), (by first | rfl | (simp; done) | (simp [*]; done)), (by first | rfl | (simp; done) | (simp [*]; done)), (by first | rfl | (simp; done) | (simp [*]; done)), H', ⟨by have := HK1.out; have := HK2.out; omega⟩, ⟨by (with_reducible repeat (first | apply Kd.R_alloc | apply Kd.R_drewN | apply Kd.R_drew)); exact HO_10.out⟩, ⟨by repeat (first | (with_reducible first | exact HB.out | apply below_alloc | apply pw_below_drewN | apply below_drew1) | exact HB.out)⟩⟩
                      · rw [if_neg c26] at H
                        exact absurd H (by simp)
                    · rw [if_neg c25] at H
                      have c25b0 : decide (a1 ≤ (wrap64 ((wrap64 (x23_2 + 1)) - x12_2))) = false := decide_eq_false c25
                      clear c25
                      by_cases c34 : (wrap64 ((wrap64 (x23_2 + 1)) - x12_2)) ≥ a3
                      · rw [if_pos c34] at H
                        have c34b0 : decide (a3 ≤ (wrap64 ((wrap64 (x23_2 + 1)) - x12_2))) = true := decide_eq_true c34
                        clear c34
                        by_cases c35 : x10_2.length < 17592186044416
                        · rw [if_pos c35] at H
                          have LMc35 := Aside0.mk c35
                          clear c35
                          obtain ⟨y129, hy129⟩ : ∃ y_ : List Int, y_ = (x10_2 ++ [wrap64 ((wrap64 (x23_2 + 1)) - x12_2)]) := ⟨_, rfl⟩
                          replace H : (blob_cut.l1 k2 l0 a1 a2 a3 x9_1 y129 (((31 * x11_2) + (rd l0 x23_2)) % 4294967296) (wrap64 (x23_2 + 1)) l0 (l0.length : Int) (wrap64 (x23_2 + 1))) = some r := by first | (rw [hy129]; with_reducible exact H) | (have H2_ := (Option.bind_some _ _).symm.trans H; rw [hy129]; with_reducible exact H2_) | (have H2_ := (Option.bind_some _ _).symm.trans H; with_reducible exact H2_) | with_reducible exact H | (rw [hy129]; exact H) | exact H
                          have Ny129 := Aside0.mk hy129
                          clear hy129
                          have H' := Aside0.mk H
                          clear H
                          have p112 : 0 ≤ (x23_2 : Int) := of_decide_eq_true (by first | (with_reducible assumption) | assumption)
                          have q112 : x23_2 < (l0.length : Int) := of_decide_eq_true (by first | (with_reducible assumption) | assumption)
                          obtain ⟨ad112, e112, hx112_0⟩ := Kd.at_int HR0.out x23_2 p112 q112
                          cases e112
                          replace hx112_0 := (HB.out.cell (World.block_lt_of_cell? w _ hx112_0)).trans hx112_0
                          replace p112 := eq_true p112
                          replace q112 := eq_true q112
                          go_wp2_with (first | ((with_reducible refine gate_builtin (b := .append) (xs := #[.tmp 65, .tmp 67]) rfl ?_); at_builtin; refine Kd.R_append (Kd.int .i64) (w0 := w) w.heap.size rfl (.tmp 65) (.tmp 67) 28 3 (.int .i64 0) 8 rfl Try.underlying28 info3 rfl (by decide) (by omega) u10 x10_2 (wrap64 ((wrap64 (x23_2 + 1)) - x12_2)) [.int .i64 (wrap64 ((wrap64 (x23_2 + 1)) - x12_2))] (fun _ => True) (fun _ => False) rfl rfl ?aP (fun _ hk => hk.elim) ?aF ?aO ?aB ?aS ?aL ?_; (case aP => exact rfl); (case aB => exact (by repeat (first | (with_reducible first | exact HB.out | apply below_alloc | apply pw_below_drewN | apply below_drew1) | exact HB.out))); (case aF => exact (fun _ _ => trivial)); (case aO => exact (by (with_reducible repeat (first | apply Kd.R_alloc | apply Kd.R_drewN | apply Kd.R_drew)); exact HO_10.out)); (case aS => exact (below_size (by repeat (first | (with_reducible first | exact HB.out | apply below_alloc | apply pw_below_drewN | apply below_drew1) | exact HB.out)))); (case aL => have := LMc35.out; omega); intro v130 w36 ho hb hg hat; rw [← Ny129.out] at ho; have n0_ := Aside0.mk (hb); have n1_ := Aside0.mk (ho); clear HB; clear HO_10; have HB := n0_; have HO131 := n1_; clear n0_ n1_; clear ho hb hg hat))
                          go_roundg k2
                          case measure => have := HK1.out; have := HK2.out; omega
                          case rel => exact ⟨(y129), (((31 * x11_2) + (rd l0 x23_2)) % 4294967296), (wrap64 (x23_2 + 1)), (wrap64 (x23_2 + 1)), (by first | rfl | (simp; done) | (simp [*]; done)), (by first | rfl | (simp; done) | (simp [*]; done)), (by first | rfl | (simp; done) | (simp [*]; done)), H', ⟨by have := HK1.out; have := HK2.out; omega⟩, ⟨by (with_reducible repeat (first | apply Kd.R_alloc | apply Kd.R_drewN | apply Kd.R_drew)); exact HO131.out⟩, ⟨by repeat (first | (with_reducible first | exact HB.out | apply below_alloc | apply pw_below_drewN | apply below_drew1) | exact HB.out)⟩⟩
                        · rw [if_neg c35] at H
                          exact absurd H (by simp)
                      · rw [if_neg c34] at H
                        have c34b0 : decide (a3 ≤ (wrap64 ((wrap64 (x23_2 + 1)) - x12_2))) = false := decide_eq_false c34
                        clear c34
                        have H' := Aside0.mk H
                        clear H
                        have p112 : 0 ≤ (x23_2 : Int) := of_decide_eq_true (by first | (with_reducible assumption) | assumption)
                        have q112 : x23_2 < (l0.length : Int) := of_decide_eq_true (by first | (with_reducible assumption) | assumption)
                        obtain ⟨ad112, e112, hx112_0⟩ := Kd.at_int HR0.out x23_2 p112 q112
                        cases e112
                        replace hx112_0 := (HB.out.cell (World.block_lt_of_cell? w _ hx112_0)).trans hx112_0
                        replace p112 := eq_true p112
                        replace q112 := eq_true q112
                        go_wp2
                        go_roundg k2
                        case measure => have := HK1.out; have := HK2.out; omega
                        case rel => exact ⟨(x10_2), (((31 * x11_2) + (rd l0 x23_2)) % 4294967296), (x12_2), (wrap64 (x23_2 + 1)), (by first | rfl | (simp; done) | (simp [*]; done)), (by first | rfl | (simp; done) | (simp [*]; done)), (by first | rfl | (simp; done) | (simp [*]; done)), H', ⟨by have := HK1.out; have := HK2.out; omega⟩, ⟨by (with_reducible repeat (first | apply Kd.R_alloc | apply Kd.R_drewN | apply Kd.R_drew)); exact HO_10.out⟩, ⟨by repeat (first | (with_reducible first | exact HB.out | apply below_alloc | apply pw_below_drewN | apply below_drew1) | exact HB.out)⟩⟩
                · rw [if_neg c8] at H
                  exact absurd H (by simp)
              · rw [if_neg c7] at H
                exact absurd H (by simp)
            · rw [if_neg c6] at H
              have c6b0 : decide (x23_2 < (l0.length : Int)) = false := decide_eq_false c6
              clear c6
              by_cases c37 : x12_2 < (l0.length : Int)
              · rw [if_pos c37] at H
                have c37b0 : decide (x12_2 < (l0.length : Int)) = true := decide_eq_true c37
                clear c37
                by_cases c38 : x10_2.length < 17592186044416
                · rw [if_pos c38] at H
                  have LMc38 := Aside0.mk c38
                  clear c38
                  obtain ⟨y109, hy109⟩ : ∃ y_ : List Int, y_ = (x10_2 ++ [wrap64 ((l0.length : Int) - x12_2)]) := ⟨_, rfl⟩
                  replace H : (some y109) = some r := by first | (rw [hy109]; with_reducible exact H) | (have H2_ := (Option.bind_some _ _).symm.trans H; rw [hy109]; with_reducible exact H2_) | (have H2_ := (Option.bind_some _ _).symm.trans H; with_reducible exact H2_) | with_reducible exact H | (rw [hy109]; exact H) | exact H
                  have Ny109 := Aside0.mk hy109
                  clear hy109
                  obtain rfl := Option.some.inj H
                  go_wp2_with (first | ((with_reducible refine gate_builtin (b := .append) (xs := #[.tmp 76, .tmp 81]) rfl ?_); at_builtin; refine Kd.R_append (Kd.int .i64) (w0 := w) w.heap.size rfl (.tmp 76) (.tmp 81) 28 3 (.int .i64 0) 8 rfl Try.underlying28 info3 rfl (by decide) (by omega) u10 x10_2 (wrap64 ((l0.length : Int) - x12_2)) [.int .i64 (wrap64 ((l0.length : Int) - x12_2))] (fun _ => True) (fun _ => False) rfl rfl ?aP (fun _ hk => hk.elim) ?aF ?aO ?aB ?aS ?aL ?_; (case aP => exact rfl); (case aB => exact (by repeat (first | (with_reducible first | exact HB.out | apply below_alloc | apply pw_below_drewN | apply below_drew1) | exact HB.out))); (case aF => exact (fun _ _ => trivial)); (case aO => exact (by (with_reducible repeat (first | apply Kd.R_alloc | apply Kd.R_drewN | apply Kd.R_drew)); exact HO_10.out)); (case aS => exact (below_size (by repeat (first | (with_reducible first | exact HB.out | apply below_alloc | apply pw_below_drewN | apply below_drew1) | exact HB.out)))); (case aL => have := LMc38.out; omega); intro v110 w39 ho hb hg hat; rw [← Ny109.out] at ho; have n0_ := Aside0.mk (hb); have n1_ := Aside0.mk (ho); clear HB; clear HO_10; have HB := n0_; have HO111 := n1_; clear n0_ n1_; clear ho hb hg hat))
                  go_ret
                  exact ⟨_, by first | rfl | (simp [errW_none, errW_some] <;> rfl) | (simp [*, errW_none, errW_some] <;> rfl), by (with_reducible repeat (first | apply Kd.R_alloc | apply Kd.R_drewN | apply Kd.R_drew)); exact HO111.out, by repeat (first | (with_reducible first | exact HB.out | apply below_alloc | apply pw_below_drewN | apply below_drew1) | exact HB.out)⟩
                · rw [if_neg c38] at H
                  exact absurd H (by simp)
              · rw [if_neg c37] at H
                have c37b0 : decide (x12_2 < (l0.length : Int)) = false := decide_eq_false c37
                clear c37
                obtain rfl := Option.some.inj H
                go_wp2
                go_ret
                exact ⟨_, by first | rfl | (simp [errW_none, errW_some] <;> rfl) | (simp [*, errW_none, errW_some] <;> rfl), by (with_reducible repeat (first | apply Kd.R_alloc | apply Kd.R_drewN | apply Kd.R_drew)); exact HO_10.out, by repeat (first | (with_reducible first | exact HB.out | apply below_alloc | apply pw_below_drewN | apply below_drew1) | exact HB.out)⟩

/-! ### blob_Pieces: function 13 -/
def blob_Pieces.j0 : Nat → List Int → Int → Int → Int → Bool → Option (List Int × Int)
  | 0, _, _, _, _, _ => none
  | k + 1, x0, x1, x2, x3, x32 => if x32 = true then (some (([] : List Int), 1)) else ((blob_cut.f k x0 x1 x2 x3).bind fun t132 => (if (t132.length : Int) > 20000 then (some (([] : List Int), 2)) else (some (t132, 0))))
def blob_Pieces.f (k : Nat) (l0 : List Int) (a1 : Int) (a2 : Int) (a3 : Int) : Option (List Int × Int) := if (l0.length : Int) > 2000000 then (some (([] : List Int), 2)) else (if a1 < 1 then (blob_Pieces.j0 k l0 a1 a2 a3 true) else (if a1 > a3 then (blob_Pieces.j0 k l0 a1 a2 a3 true) else (if a2 < 0 then (blob_Pieces.j0 k l0 a1 a2 a3 true) else (if a2 > 20 then (blob_Pieces.j0 k l0 a1 a2 a3 true) else (blob_Pieces.j0 k l0 a1 a2 a3 (decide (a3 > 100000)))))))
theorem blob_Pieces.mono_l : ∀ k, (∀ y0 y1 y2 y3 y4, LeO (blob_Pieces.j0 k y0 y1 y2 y3 y4) (blob_Pieces.j0 (k + 1) y0 y1 y2 y3 y4))
  | 0 => fun _ _ _ _ _ r h => by simp [blob_Pieces.j0] at h
  | k + 1 => by
    have ih0 := blob_Pieces.mono_l k
    · intro y0 y1 y2 y3 y4
      unfold blob_Pieces.j0
      repeat' first
      | (with_reducible exact ih0 _ _ _ _ _)
      | (with_reducible exact blob_cut.mono _ _ _ _ _)
      | (with_reducible exact LeO.refl _)
      | (with_reducible exact LeO.none _)
      | (with_reducible refine LeO.ite ?_ ?_)
      | (with_reducible refine LeO.bind ?_ (fun _ => ?_))
      | exact ih0 _ _ _ _ _
      | exact blob_cut.mono _ _ _ _ _
      | exact LeO.none _
      | refine LeO.ite ?_ ?_
      | refine LeO.bind ?_ (fun _ => ?_)
theorem blob_Pieces.mono : ∀ a0 a1 a2 a3 k, LeO (blob_Pieces.f k a0 a1 a2 a3) (blob_Pieces.f (k + 1) a0 a1 a2 a3) := by
  intro a0 a1 a2 a3 k
  have ih0 := blob_Pieces.mono_l k
  unfold blob_Pieces.f
  repeat' first
      | (with_reducible exact ih0 _ _ _ _ _)
      | (with_reducible exact blob_cut.mono _ _ _ _ _)
      | (with_reducible exact LeO.refl _)
      | (with_reducible exact LeO.none _)
      | (with_reducible refine LeO.ite ?_ ?_)
      | (with_reducible refine LeO.bind ?_ (fun _ => ?_))
      | exact ih0 _ _ _ _ _
      | exact blob_cut.mono _ _ _ _ _
      | exact LeO.none _
      | refine LeO.ite ?_ ?_
      | refine LeO.bind ?_ (fun _ => ?_)
set_option maxHeartbeats 8000000 in
set_option maxRecDepth 100000 in
theorem blob_Pieces.calls (k : Nat) (A0 : Option Addr) (c0 : Nat) (l0 : List Int) (a1 : Int) (a2 : Int) (a3 : Int) (r1 : List Int) (r2 : Int) (w : World) (hr0 : Kd.C (Kd.int .u8) w A0 l0.length l0) (hc0 : l0.length ≤ c0) (h : blob_Pieces.f k l0 a1 a2 a3 = some (r1, r2)) :
    Calls Try.prog 13 #[.slice A0 l0.length c0, .int .i64 a1, .int .i64 a2, .int .i64 a3] w fun e w' => ∃ v0_ : Value, e = .returned (.tuple #[v0_, .int .i64 r2]) ∧ Kd.R (Kd.int .i64) 3 w' w.heap.size (fun _ => True) v0_ r1 ∧ Below w.heap.size w w' := by
  have HR0 := Aside0.mk hr0
  have HC0 := Aside0.mk hc0
  clear hr0 hc0
  have HB := Aside0.mk (Below.refl w.heap.size w)
  have H : (if (l0.length : Int) > 2000000 then (some (([] : List Int), 2)) else (if a1 < 1 then (blob_Pieces.j0 k l0 a1 a2 a3 true) else (if a1 > a3 then (blob_Pieces.j0 k l0 a1 a2 a3 true) else (if a2 < 0 then (blob_Pieces.j0 k l0 a1 a2 a3 true) else (if a2 > 20 then (blob_Pieces.j0 k l0 a1 a2 a3 true) else (blob_Pieces.j0 k l0 a1 a2 a3 (decide (a3 > 100000)))))))) = some (r1, r2) := h
  clear h
  by_cases c5 : (l0.length : Int) > 2000000
  · rw [if_pos c5] at H
    have c5b0 : decide (2000000 < (l0.length : Int)) = true := decide_eq_true c5
    have c5b1 : decide (2000000 < l0.length) = true := decide_eq_true (by omega)
    clear c5
    simp only [Option.some.injEq, Prod.mk.injEq] at H
    obtain ⟨rfl, rfl⟩ := H
    go_enter Try.func13, Try.ntmps13
    go_wp2
    go_ret2
    exact ⟨_, by first | rfl | (simp [errW_none, errW_some] <;> rfl) | (simp [*, errW_none, errW_some] <;> rfl), by first | exact Kd.R_nil _ _ _ _ _ | exact Kd.N_nil _ _ _ _ _ | exact Kd.V_nil _ _ _ _ _ | exact Kd.Q_nil _ _ _ _ _ | exact Kd.S_nil _ _ _ _ _, by repeat (first | (with_reducible first | exact HB.out | apply below_alloc | apply pw_below_drewN | apply below_drew1) | exact HB.out)⟩
  · rw [if_neg c5] at H
    have c5b0 : decide (2000000 < (l0.length : Int)) = false := decide_eq_false c5
    have c5b1 : decide (2000000 < l0.length) = false := decide_eq_false (by omega)
    clear c5
    have HC6 := Aside0.mk H
    clear H
    go_enter Try.func13, Try.ntmps13
    go_upto_region 3 with (fail)
    go_cut [32] (fun v32 wc => ∃ (kq : Nat) (x32_5 : Bool), v32 = .bool x32_5 ∧ Aside0 (blob_Pieces.j0 kq l0 a1 a2 a3 x32_5 = some (r1, r2)) ∧ Aside0 (kq ≤ k) ∧ Aside0 (Below w.heap.size w wc))
    case first =>
      have H := HC6.out
      clear HC6
      by_cases c7 : a1 < 1
      · rw [if_pos c7] at H
        have c7b0 : decide (a1 < 1) = true := decide_eq_true c7
        clear c7
        (first | rw [c7b0] | (simp only [i64_w, i32_w]; rw [c7b0]) | skip)
        have H' := Aside0.mk H
        clear H
        go_wp2
        go_meet
        case rel => exact ⟨_, (true), (by first | rfl | (simp; done) | (simp [*]; done)), H', ⟨by first | omega | exact Nat.le_refl _⟩, ⟨by repeat (first | (with_reducible first | exact HB.out | apply below_alloc | apply pw_below_drewN | apply below_drew1) | exact HB.out)⟩⟩
      · rw [if_neg c7] at H
        have c7b0 : decide (a1 < 1) = false := decide_eq_false c7
        clear c7
        (first | rw [c7b0] | (simp only [i64_w, i32_w]; rw [c7b0]) | skip)
        by_cases c8 : a1 > a3
        · rw [if_pos c8] at H
          have c8b0 : decide (a3 < a1) = true := decide_eq_true c8
          clear c8
          have H' := Aside0.mk H
          clear H
          go_wp2
          go_meet
          case rel => exact ⟨_, (true), (by first | rfl | (simp; done) | (simp [*]; done)), H', ⟨by first | omega | exact Nat.le_refl _⟩, ⟨by repeat (first | (with_reducible first | exact HB.out | apply below_alloc | apply pw_below_drewN | apply below_drew1) | exact HB.out)⟩⟩
        · rw [if_neg c8] at H
          have c8b0 : decide (a3 < a1) = false := decide_eq_false c8
          clear c8
          by_cases c9 : a2 < 0
          · rw [if_pos c9] at H
            have c9b0 : decide (a2 < 0) = true := decide_eq_true c9
            clear c9
            have H' := Aside0.mk H
            clear H
            go_wp2
            go_meet
            case rel => exact ⟨_, (true), (by first | rfl | (simp; done) | (simp [*]; done)), H', ⟨by first | omega | exact Nat.le_refl _⟩, ⟨by repeat (first | (with_reducible first | exact HB.out | apply below_alloc | apply pw_below_drewN | apply below_drew1) | exact HB.out)⟩⟩
          · rw [if_neg c9] at H
            have c9b0 : decide (a2 < 0) = false := decide_eq_false c9
            clear c9
            by_cases c10 : a2 > 20
            · rw [if_pos c10] at H
              have c10b0 : decide (20 < a2) = true := decide_eq_true c10
              clear c10
              have H' := Aside0.mk H
              clear H
              go_wp2
              go_meet
              case rel => exact ⟨_, (true), (by first | rfl | (simp; done) | (simp [*]; done)), H', ⟨by first | omega | exact Nat.le_refl _⟩, ⟨by repeat (first | (with_reducible first | exact HB.out | apply below_alloc | apply pw_below_drewN | apply below_drew1) | exact HB.out)⟩⟩
            · rw [if_neg c10] at H
              have c10b0 : decide (20 < a2) = false := decide_eq_false c10
              clear c10
              have H' := Aside0.mk H
              clear H
              go_wp2
              go_meet
              case rel => exact ⟨_, (decide (a3 > 100000)), (by first | rfl | (simp; done) | (simp [*]; done)), H', ⟨by first | omega | exact Nat.le_refl _⟩, ⟨by repeat (first | (with_reducible first | exact HB.out | apply below_alloc | apply pw_below_drewN | apply below_drew1) | exact HB.out)⟩⟩
    case rest =>
      clear HC6
      try clear c1
      try clear p2
      try clear c5
      try clear c5b0
      try clear c5b1
      try clear c7
      try clear c7b0
      try clear c8
      try clear c8b0
      try clear c9
      try clear c9b0
      try clear c10
      try clear c10b0
      obtain ⟨kq, x32_5, rfl, HA, HJ5, HB⟩ := hcut
      cases kq with
      | zero => exact absurd HA.out (by simp [blob_Pieces.j0])
      | succ kj5 =>
        have H := HA.out
        clear HA
        simp only [blob_Pieces.j0] at H
        by_cases c11 : x32_5 = true
        · subst c11
          have H1 : (some (([] : List Int), 1)) = some (r1, r2) := by rw [if_pos rfl] at H; exact H
          clear H
          have H := H1
          clear H1
          simp only [Option.some.injEq, Prod.mk.injEq] at H
          obtain ⟨rfl, rfl⟩ := H
          go_wp2
          go_ret2
          exact ⟨_, by first | rfl | (simp [errW_none, errW_some] <;> rfl) | (simp [*, errW_none, errW_some] <;> rfl), by first | exact Kd.R_nil _ _ _ _ _ | exact Kd.N_nil _ _ _ _ _ | exact Kd.V_nil _ _ _ _ _ | exact Kd.Q_nil _ _ _ _ _ | exact Kd.S_nil _ _ _ _ _, by repeat (first | (with_reducible first | exact HB.out | apply below_alloc | apply pw_below_drewN | apply below_drew1) | exact HB.out)⟩
        · replace c11 := Bool.eq_false_iff.mpr c11
          subst c11
          have H1 : ((blob_cut.f kj5 l0 a1 a2 a3).bind fun t132 => (if (t132.length : Int) > 20000 then (some (([] : List Int), 2)) else (some (t132, 0)))) = some (r1, r2) := by rw [if_neg (show ¬ (false = true) by decide)] at H; exact H
          clear H
          have H := H1
          clear H1
          replace H := Option.bind_eq_some_iff.mp H
          obtain ⟨t132, A120, H⟩ := H
          replace H : (if (t132.length : Int) > 20000 then (some (([] : List Int), 2)) else (some (t132, 0))) = some (r1, r2) := H
          have A12 := Aside0.mk A120
          clear A120
          by_cases c13 : (t132.length : Int) > 20000
          · rw [if_pos c13] at H
            have c13b0 : decide (20000 < (t132.length : Int)) = true := decide_eq_true c13
            have c13b1 : decide (20000 < t132.length) = true := decide_eq_true (by omega)
            clear c13
            simp only [Option.some.injEq, Prod.mk.injEq] at H
            obtain ⟨rfl, rfl⟩ := H
            go_wp2_with (first | ((with_reducible refine gate_callee (f := 23) rfl ?_); refine goesL_ (some 37) rfl rfl Try.func23 (by kernel_rfl) rfl #[.slice A0 l0.length c0, .int .i64 a1, .int .i64 a2, .int .i64 a3] rfl (by (try simp only [List.map_toArray, List.map_cons, List.map_nil]); first | done | rfl | (simp only [List.length_drop, List.length_take]; rfl)) ?_; (with_reducible refine (blob_cut.calls kj5 _ _ l0 a1 a2 a3 t132 _ ?side1 ?side2 A12.out).mono ?_); (case side1 => repeat (first | exact (Kd.C_below HR0.out HB.out) | (with_reducible refine Kd.C_alloc ?_ _) | (with_reducible refine Kd.C_drewN ?_ _) | (with_reducible refine Kd.C_drew ?_))); (case side2 => exact HC0.out); rintro e w14 ⟨v133, rfl, ho0, hb⟩; refine ⟨_, rfl, ?_⟩; have n0_ := Aside0.mk (Kd.R_lower ho0 (below_size (by repeat (first | (with_reducible first | exact HB.out | apply below_alloc | apply pw_below_drewN | apply below_drew1) | exact HB.out)))); have n1_ := Aside0.mk (below_step (by repeat (first | (with_reducible first | exact HB.out | apply below_alloc | apply pw_below_drewN | apply below_drew1) | exact HB.out)) hb); clear HB; have HO134 := n0_; have HB := n1_; clear n0_ n1_; (try clear hb); (try clear hb2); (try clear hk); (try clear hi); (try clear ho0); obtain ⟨Ao15, co15, eo15⟩ := Kd.R_slice HO134.out; subst eo15))
            go_ret2
            exact ⟨_, by first | rfl | (simp [errW_none, errW_some] <;> rfl) | (simp [*, errW_none, errW_some] <;> rfl), by first | exact Kd.R_nil _ _ _ _ _ | exact Kd.N_nil _ _ _ _ _ | exact Kd.V_nil _ _ _ _ _ | exact Kd.Q_nil _ _ _ _ _ | exact Kd.S_nil _ _ _ _ _, by repeat (first | (with_reducible first | exact HB.out | apply below_alloc | apply pw_below_drewN | apply below_drew1) | exact HB.out)⟩
          · rw [if_neg c13] at H
            have c13b0 : decide (20000 < (t132.length : Int)) = false := decide_eq_false c13
            have c13b1 : decide (20000 < t132.length) = false := decide_eq_false (by omega)
            clear c13
            simp only [Option.some.injEq, Prod.mk.injEq] at H
            obtain ⟨rfl, rfl⟩ := H
            go_wp2_with (first | ((with_reducible refine gate_callee (f := 23) rfl ?_); refine goesL_ (some 37) rfl rfl Try.func23 (by kernel_rfl) rfl #[.slice A0 l0.length c0, .int .i64 a1, .int .i64 a2, .int .i64 a3] rfl (by (try simp only [List.map_toArray, List.map_cons, List.map_nil]); first | done | rfl | (simp only [List.length_drop, List.length_take]; rfl)) ?_; (with_reducible refine (blob_cut.calls kj5 _ _ l0 a1 a2 a3 t132 _ ?side1 ?side2 A12.out).mono ?_); (case side1 => repeat (first | exact (Kd.C_below HR0.out HB.out) | (with_reducible refine Kd.C_alloc ?_ _) | (with_reducible refine Kd.C_drewN ?_ _) | (with_reducible refine Kd.C_drew ?_))); (case side2 => exact HC0.out); rintro e w16 ⟨v133, rfl, ho0, hb⟩; refine ⟨_, rfl, ?_⟩; have n0_ := Aside0.mk (Kd.R_lower ho0 (below_size (by repeat (first | (with_reducible first | exact HB.out | apply below_alloc | apply pw_below_drewN | apply below_drew1) | exact HB.out)))); have n1_ := Aside0.mk (below_step (by repeat (first | (with_reducible first | exact HB.out | apply below_alloc | apply pw_below_drewN | apply below_drew1) | exact HB.out)) hb); clear HB; have HO134 := n0_; have HB := n1_; clear n0_ n1_; (try clear hb); (try clear hb2); (try clear hk); (try clear hi); (try clear ho0); obtain ⟨Ao17, co17, eo17⟩ := Kd.R_slice HO134.out; subst eo17))
            go_ret2
            exact ⟨_, by first | rfl | (simp [errW_none, errW_some] <;> rfl) | (simp [*, errW_none, errW_some] <;> rfl), by (with_reducible repeat (first | apply Kd.R_alloc | apply Kd.R_drewN | apply Kd.R_drew)); exact HO134.out, by repeat (first | (with_reducible first | exact HB.out | apply below_alloc | apply pw_below_drewN | apply below_drew1) | exact HB.out)⟩

end Go.Proofs.Ytjdfbpjbobmgdaa.QTogether
