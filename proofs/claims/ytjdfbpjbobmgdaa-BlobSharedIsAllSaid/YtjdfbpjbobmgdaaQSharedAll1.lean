-- Written by this session's program (wip/tools/pp.py) out of the translation; Lean checks it.
import Derived.Test.YtjdfbpjbobmgdaaQSharedAll0
namespace Go.Proofs.Ytjdfbpjbobmgdaa.QSharedAll
open Go.RowKit Go.Proofs.YtjdfbpjbobmgdaaW.PrintWords Go.Proofs.YtjdfbpjbobmgdaaW.PrintLast Go.Proofs.YtjdfbpjbobmgdaaW.PrintMore
attribute [local go_sem] max2_int min2_int max_two min_two max_three min_three max_four min_four   -- for this text's walks alone
set_option linter.unusedVariables false
set_option linter.unusedSimpArgs false

/-! ### blob_Digest: function 9 -/
mutual
def blob_Digest.l0 : Nat → Int → List Int → Int → Int → Option (ByteArray)
  | 0, _, _, _, _ => none
  | k + 1, x3, x8, x9, x10 => if x10 < x9 then (if 0 ≤ x10 then (if x10 < (x8.length : Int) then (blob_Digest.l0 k (IntKind.u64.wrap ((Go.bits .xor .u64 x3 (IntKind.u64.wrap (rd x8 x10))) * 1099511628211)) x8 x9 (wrap64 (x10 + 1))) else (none)) else (none)) else (if 16 ≤ 281474976710656 then ((some (List.replicate 16 0 : List Int)).bind fun y102 => (blob_Digest.l1 k x3 y102 (y102.length : Int) 0)) else (none))
def blob_Digest.l1 : Nat → Int → List Int → Int → Int → Option (ByteArray)
  | 0, _, _, _, _ => none
  | k + 1, x3, x6, x22, x23 => if x23 < x22 then (if 0 ≤ (Go.bits .and .u64 x3 15) then (if (Go.bits .and .u64 x3 15) < 16 then (if 0 ≤ (wrap64 (15 - x23)) then (if (wrap64 (15 - x23)) < (x6.length : Int) then (blob_Digest.l1 k (x3 / 16) (x6.set ((wrap64 (15 - x23)) : Int).toNat (bt (⟨#[48, 49, 50, 51, 52, 53, 54, 55, 56, 57, 97, 98, 99, 100, 101, 102]⟩ : ByteArray) (Go.bits .and .u64 x3 15))) x22 (wrap64 (x23 + 1))) else (none)) else (none)) else (none)) else (none)) else (some (strOfNums x6))
end
def blob_Digest.f (k : Nat) (l0 : List Int) : Option (ByteArray) := blob_Digest.l0 k 14695981039346656037 l0 (l0.length : Int) 0
theorem blob_Digest.mono_l : ∀ k, (∀ y0 y1 y2 y3, LeO (blob_Digest.l0 k y0 y1 y2 y3) (blob_Digest.l0 (k + 1) y0 y1 y2 y3)) ∧ (∀ y0 y1 y2 y3, LeO (blob_Digest.l1 k y0 y1 y2 y3) (blob_Digest.l1 (k + 1) y0 y1 y2 y3))
  | 0 => ⟨fun _ _ _ _ r h => by simp [blob_Digest.l0] at h, fun _ _ _ _ r h => by simp [blob_Digest.l1] at h⟩
  | k + 1 => by
    obtain ⟨ih0, ih1⟩ := blob_Digest.mono_l k
    refine ⟨?_, ?_⟩
    · intro y0 y1 y2 y3
      unfold blob_Digest.l0
      repeat' first
      | (with_reducible exact ih0 _ _ _ _)
      | (with_reducible exact ih1 _ _ _ _)
      | (with_reducible exact LeO.refl _)
      | (with_reducible exact LeO.none _)
      | (with_reducible refine LeO.ite ?_ ?_)
      | (with_reducible refine LeO.bind ?_ (fun _ => ?_))
      | exact ih0 _ _ _ _
      | exact ih1 _ _ _ _
      | exact LeO.none _
      | refine LeO.ite ?_ ?_
      | refine LeO.bind ?_ (fun _ => ?_)
    · intro y0 y1 y2 y3
      unfold blob_Digest.l1
      repeat' first
      | (with_reducible exact ih0 _ _ _ _)
      | (with_reducible exact ih1 _ _ _ _)
      | (with_reducible exact LeO.refl _)
      | (with_reducible exact LeO.none _)
      | (with_reducible refine LeO.ite ?_ ?_)
      | (with_reducible refine LeO.bind ?_ (fun _ => ?_))
      | exact ih0 _ _ _ _
      | exact ih1 _ _ _ _
      | exact LeO.none _
      | refine LeO.ite ?_ ?_
      | refine LeO.bind ?_ (fun _ => ?_)
theorem blob_Digest.mono : ∀ a0 k, LeO (blob_Digest.f k a0) (blob_Digest.f (k + 1) a0) := by
  intro a0 k
  obtain ⟨ih0, ih1⟩ := blob_Digest.mono_l k
  unfold blob_Digest.f
  repeat' first
      | (with_reducible exact ih0 _ _ _ _)
      | (with_reducible exact ih1 _ _ _ _)
      | (with_reducible exact LeO.refl _)
      | (with_reducible exact LeO.none _)
      | (with_reducible refine LeO.ite ?_ ?_)
      | (with_reducible refine LeO.bind ?_ (fun _ => ?_))
      | exact ih0 _ _ _ _
      | exact ih1 _ _ _ _
      | exact LeO.none _
      | refine LeO.ite ?_ ?_
      | refine LeO.bind ?_ (fun _ => ?_)
set_option maxHeartbeats 8000000 in
set_option maxRecDepth 100000 in
theorem blob_Digest.calls (k : Nat) (A0 : Option Addr) (c0 : Nat) (l0 : List Int) (r : ByteArray) (w : World) (hr0 : Kd.C (Kd.int .u8) w A0 l0.length l0) (hc0 : l0.length ≤ c0) (h : blob_Digest.f k l0 = some r) :
    Calls Try.prog 9 #[.slice A0 l0.length c0] w fun e w' => e = .returned (.string r) ∧ Below w.heap.size w w' := by
  have HR0 := Aside0.mk hr0
  have HC0 := Aside0.mk hc0
  clear hr0 hc0
  have HB := Aside0.mk (Below.refl w.heap.size w)
  have H : (blob_Digest.l0 k 14695981039346656037 l0 (l0.length : Int) 0) = some r := h
  clear h
  have H' := Aside0.mk H
  clear H
  go_enter Try.func9, Try.ntmps9
  go_wp2
  go_loopg [3, 10] k (fun kq v3 v10 w' => ∃ (x3_1 : Int) (x10_1 : Int), v3 = .int .u64 x3_1 ∧ v10 = .int .i64 x10_1 ∧ Aside0 (blob_Digest.l0 kq x3_1 l0 (l0.length : Int) x10_1 = some r) ∧ Aside0 (kq ≤ k) ∧ Aside0 (Below w.heap.size w w'))
  case atStart => exact ⟨(14695981039346656037), (0), (by first | rfl | (simp; done) | (simp [*]; done)), (by first | rfl | (simp; done) | (simp [*]; done)), H', ⟨Nat.le_refl _⟩, ⟨by repeat (first | (with_reducible first | exact HB.out | apply below_alloc | apply pw_below_drewN | apply below_drew1) | exact HB.out)⟩⟩
  case round =>
    clear H'
    obtain ⟨x3_1, x10_1, rfl, rfl, HA, HK1, HB⟩ := hrel
    cases gk with
    | zero => exact absurd HA.out (by simp [blob_Digest.l0])
    | succ k1 =>
      have H := HA.out
      clear HA
      simp only [blob_Digest.l0] at H
      by_cases c2 : x10_1 < (l0.length : Int)
      · rw [if_pos c2] at H
        have c2b0 : decide (x10_1 < (l0.length : Int)) = true := decide_eq_true c2
        clear c2
        by_cases c3 : 0 ≤ x10_1
        · rw [if_pos c3] at H
          have c3b0 : decide (0 ≤ x10_1) = true := decide_eq_true c3
          clear c3
          by_cases c4 : x10_1 < (l0.length : Int)
          · rw [if_pos c4] at H
            have c4b0 : decide (x10_1 < (l0.length : Int)) = true := decide_eq_true c4
            clear c4
            have H' := Aside0.mk H
            clear H
            have p101 : 0 ≤ (x10_1 : Int) := of_decide_eq_true (by first | (with_reducible assumption) | assumption)
            have q101 : x10_1 < (l0.length : Int) := of_decide_eq_true (by first | (with_reducible assumption) | assumption)
            obtain ⟨ad101, e101, hx101_0⟩ := Kd.at_int HR0.out x10_1 p101 q101
            cases e101
            replace hx101_0 := (HB.out.cell (World.block_lt_of_cell? w _ hx101_0)).trans hx101_0
            replace p101 := eq_true p101
            replace q101 := eq_true q101
            go_wp2
            go_roundg k1
            case measure => have := HK1.out; omega
            case rel => exact ⟨(IntKind.u64.wrap ((Go.bits .xor .u64 x3_1 (IntKind.u64.wrap (rd l0 x10_1))) * 1099511628211)), (wrap64 (x10_1 + 1)), (by first | rfl | (simp; done) | (simp [*]; done)), (by first | rfl | (simp; done) | (simp [*]; done)), H', ⟨by have := HK1.out; omega⟩, ⟨by repeat (first | (with_reducible first | exact HB.out | apply below_alloc | apply pw_below_drewN | apply below_drew1) | exact HB.out)⟩⟩
          · rw [if_neg c4] at H
            exact absurd H (by simp)
        · rw [if_neg c3] at H
          exact absurd H (by simp)
      · rw [if_neg c2] at H
        have c2b0 : decide (x10_1 < (l0.length : Int)) = false := decide_eq_false c2
        clear c2
        by_cases c5 : 16 ≤ 281474976710656
        · rw [if_pos c5] at H
          have c5b0 := eq_true c5
          have c5b1 : decide (16 ≤ 281474976710656) = true := decide_eq_true c5
          clear c5
          obtain ⟨y102, hy102⟩ : ∃ y_ : List Int, y_ = (List.replicate 16 0) := ⟨_, rfl⟩
          replace H : (blob_Digest.l1 k1 x3_1 y102 (y102.length : Int) 0) = some r := by first | (rw [hy102]; with_reducible exact H) | (have H2_ := (Option.bind_some _ _).symm.trans H; rw [hy102]; with_reducible exact H2_) | (have H2_ := (Option.bind_some _ _).symm.trans H; with_reducible exact H2_) | with_reducible exact H | (rw [hy102]; exact H) | exact H
          have Ny102 := Aside0.mk hy102
          clear hy102
          have H' := Aside0.mk H
          clear H
          go_wp2_with (first | ((with_reducible refine gate_dst (N := 20) rfl ?_); refine Kd.R_make (Kd.int .u8) _ 5 rfl (N := 20) rfl 22 _ _ rfl 16 rfl rfl Try.underlying22 (.int .u8 0) 1 info5 rfl (by decide) (by omega) 0 (ok := fun _ => True) (okp := fun _ => True) rfl (fun _ hk => hk) trivial (by omega) (by omega) (Below.refl _ _) (Nat.le_refl _) ?_; intro v103 w6 ho7 hb hg_ hnew_; clear hg_ hnew_; (first | rw [← Ny102.out] at ho7 | (simp only [Int.reduceToNat] at ho7; rw [← Ny102.out] at ho7)); have n0_ := Aside0.mk (Kd.R_lower ho7 (below_size (by repeat (first | (with_reducible first | exact HB.out | apply below_alloc | apply pw_below_drewN | apply below_drew1) | exact HB.out)))); have n1_ := Aside0.mk (below_step (by repeat (first | (with_reducible first | exact HB.out | apply below_alloc | apply pw_below_drewN | apply below_drew1) | exact HB.out)) hb); clear HB; have HO104 := n0_; have HB := n1_; clear n0_ n1_; clear hb ho7; obtain ⟨Ao8, co8, eo8⟩ := Kd.R_slice HO104.out; subst eo8))
          go_loopg [3, 23] k1 (fun kq v3 v23 w' => ∃ (x3_2 : Int) (x6_2 : List Int) (x23_2 : Int), v3 = .int .u64 x3_2 ∧ v23 = .int .i64 x23_2 ∧ Aside0 (blob_Digest.l1 kq x3_2 x6_2 (y102.length : Int) x23_2 = some r) ∧ Aside0 (kq ≤ k1) ∧ Aside0 (Kd.R (Kd.int .u8) 5 w' w.heap.size (fun _ => True) (.slice Ao8 y102.length co8) x6_2) ∧ Aside0 (Below w.heap.size w w'))
          case atStart => exact ⟨(x3_1), (y102), (0), (by first | rfl | (simp; done) | (simp [*]; done)), (by first | rfl | (simp; done) | (simp [*]; done)), H', ⟨Nat.le_refl _⟩, ⟨by (with_reducible repeat (first | apply Kd.R_alloc | apply Kd.R_drewN | apply Kd.R_drew)); exact HO104.out⟩, ⟨by repeat (first | (with_reducible first | exact HB.out | apply below_alloc | apply pw_below_drewN | apply below_drew1) | exact HB.out)⟩⟩
          case round =>
            clear H'
            try clear p1
            try clear q1
            try clear hx1
            try clear c2
            try clear c2b0
            try clear p2
            try clear c3
            try clear c3b0
            try clear c4
            try clear c4b0
            try clear c5
            try clear c5b0
            try clear c5b1
            try clear p6
            try clear hx101_0
            try clear p101
            try clear q101
            obtain ⟨x3_2, x6_2, x23_2, rfl, rfl, HA, HK2, HO_6, HB⟩ := hrel
            have hl6_2 := (Kd.R_reads' HO_6.out).1
            rw [hl6_2] at HO_6
            (try simp only [hl6_2])
            cases gk with
            | zero => exact absurd HA.out (by simp [blob_Digest.l1])
            | succ k2 =>
              have H := HA.out
              clear HA
              simp only [blob_Digest.l1] at H
              by_cases c9 : x23_2 < (y102.length : Int)
              · rw [if_pos c9] at H
                have c9b0 : decide (x23_2 < (y102.length : Int)) = true := decide_eq_true c9
                have c9b9 : decide (x23_2 < (x6_2.length : Int)) = true := by rw [← hl6_2]; exact c9b0
                clear c9
                by_cases c10 : 0 ≤ (Go.bits .and .u64 x3_2 15)
                · rw [if_pos c10] at H
                  have c10b0 : decide (0 ≤ (Go.bits .and .u64 x3_2 15)) = true := decide_eq_true c10
                  clear c10
                  by_cases c11 : (Go.bits .and .u64 x3_2 15) < 16
                  · rw [if_pos c11] at H
                    have c11b0 : decide ((Go.bits .and .u64 x3_2 15) < 16) = true := decide_eq_true c11
                    clear c11
                    obtain ⟨ji13, hji13⟩ : ∃ j_ : Int, (wrap64 (15 - x23_2)) = j_ := ⟨_, rfl⟩
                    replace H : (if 0 ≤ (ji13) then (if (ji13) < (x6_2.length : Int) then (blob_Digest.l1 k2 (x3_2 / 16) (x6_2.set ((ji13) : Int).toNat (bt (⟨#[48, 49, 50, 51, 52, 53, 54, 55, 56, 57, 97, 98, 99, 100, 101, 102]⟩ : ByteArray) (Go.bits .and .u64 x3_2 15))) (y102.length : Int) (wrap64 (x23_2 + 1))) else (none)) else (none)) = some r := by first | (rw [hji13] at H; exact H) | (simp only [hji13] at H ⊢; exact H)
                    have hji13w : (IntKind.i64.wrap (15 - x23_2)) = ji13 := (i64_w _).trans hji13
                    by_cases c14 : 0 ≤ (ji13)
                    · rw [if_pos c14] at H
                      have c14b0 : decide (0 ≤ (ji13)) = true := decide_eq_true c14
                      clear c14
                      by_cases c15 : (ji13) < (x6_2.length : Int)
                      · rw [if_pos c15] at H
                        have c15b0 : decide ((ji13) < (x6_2.length : Int)) = true := decide_eq_true c15
                        clear c15
                        obtain ⟨y105, hy105⟩ : ∃ y_ : List Int, y_ = (x6_2.set ((ji13) : Int).toNat (bt (⟨#[48, 49, 50, 51, 52, 53, 54, 55, 56, 57, 97, 98, 99, 100, 101, 102]⟩ : ByteArray) (Go.bits .and .u64 x3_2 15))) := ⟨_, rfl⟩
                        replace H : (blob_Digest.l1 k2 (x3_2 / 16) y105 (y102.length : Int) (wrap64 (x23_2 + 1))) = some r := by first | (rw [hy105]; with_reducible exact H) | (have H2_ := (Option.bind_some _ _).symm.trans H; rw [hy105]; with_reducible exact H2_) | (have H2_ := (Option.bind_some _ _).symm.trans H; with_reducible exact H2_) | with_reducible exact H | (rw [hy105]; exact H) | exact H
                        have Ny105 := Aside0.mk hy105
                        clear hy105
                        have H' := Aside0.mk H
                        clear H
                        have p12 : 0 ≤ ((Go.bits .and .u64 x3_2 15) : Int) := of_decide_eq_true (by first | (with_reducible assumption) | assumption)
                        have q12 : (Go.bits .and .u64 x3_2 15) < (16 : Int) := of_decide_eq_true (by first | (with_reducible assumption) | assumption)
                        have hx12 := bt_at (⟨#[48, 49, 50, 51, 52, 53, 54, 55, 56, 57, 97, 98, 99, 100, 101, 102]⟩ : ByteArray) (Go.bits .and .u64 x3_2 15)
                        replace p12 := eq_true p12
                        replace q12 := eq_true q12
                        have p16 : 0 ≤ ((ji13) : Int) := of_decide_eq_true (by first | (with_reducible assumption) | assumption)
                        have q16 : ((ji13) : Int) < ((x6_2.length : Int) : Int) := of_decide_eq_true (by first | (with_reducible assumption) | assumption)
                        obtain ⟨go16, co16, eo16, gb16, gl16, cl16, HG16⟩ := Kd.R_form HO_6.out (by omega)
                        (first | cases eo16 | (injection eo16 with ea_ en_ ec_; (first | subst ea_ | (injection ea_ with ea_; subst ea_)); subst ec_; clear en_))
                        have GB16 := Aside0.mk gb16
                        have GG16 := Aside0.mk HG16
                        clear gb16 gl16 HG16
                        obtain ⟨hx16_0, hf16_0⟩ := Kd.R_celln 0 HO_6.out ((ji13) : Int) p16 q16
                        replace p16 := eq_true p16
                        replace q16 := eq_true q16
                        have HP17 := Kd.R_putg HO_6.out ((ji13) : Int) (bt (⟨#[48, 49, 50, 51, 52, 53, 54, 55, 56, 57, 97, 98, 99, 100, 101, 102]⟩ : ByteArray) (Go.bits .and .u64 x3_2 15))
                        go_wp2_with (first | ((with_reducible refine gate_store (t := 5) (p := 32) rfl ?_); refine store_event (t := 5) (p := 32) (v := ?vo_w18) (w1 := (wr.setCell ⟨go16, ((ji13) : Int).toNat, none⟩ (.int .u8 (bt (⟨#[48, 49, 50, 51, 52, 53, 54, 55, 56, 57, 97, 98, 99, 100, 101, 102]⟩ : ByteArray) (Go.bits .and .u64 x3_2 15))))) ?hg ?ho ?hn ?hr ?_; (case ho => rfl); (case hg => rfl); (case hn => rfl); (case hr => first | (go_simp; done) | (go_simp; rfl)); intro w18 hw; have hg : wr.grownBy w18 (some go16) := (by rw [hw]; exact HP17.2); have hp_ : Kd.R (Kd.int .u8) 5 w18 w.heap.size (fun _ => True) (.slice (some ⟨go16, 0, none⟩) x6_2.length co8) y105 := (by rw [hw, Ny105.out]; exact HP17.1); clear HP17; have n0_ := Aside0.mk (hp_); have n1_ := Aside0.mk ((by rw [hw]; exact below_set (HB.out) GB16.out : Below w.heap.size w w18)); clear HO_6; clear HB; have HO_6 := n0_; have HB := n1_; clear n0_ n1_; clear hg hw hp_))
                        (try simp only [← hl6_2])
                        go_roundg k2
                        case measure => have := HK1.out; have := HK2.out; omega
                        case rel => exact ⟨(x3_2 / 16), (y105), (wrap64 (x23_2 + 1)), (by first | rfl | (simp; done) | (simp [*]; done)), (by first | rfl | (simp; done) | (simp [*]; done)), H', ⟨by have := HK1.out; have := HK2.out; omega⟩, ⟨by (try simp only [hl6_2]); (with_reducible repeat (first | apply Kd.R_alloc | apply Kd.R_drewN | apply Kd.R_drew)); exact HO_6.out⟩, ⟨by repeat (first | (with_reducible first | exact HB.out | apply below_alloc | apply pw_below_drewN | apply below_drew1) | exact HB.out)⟩⟩
                      · rw [if_neg c15] at H
                        exact absurd H (by simp)
                    · rw [if_neg c14] at H
                      exact absurd H (by simp)
                  · rw [if_neg c11] at H
                    exact absurd H (by simp)
                · rw [if_neg c10] at H
                  exact absurd H (by simp)
              · rw [if_neg c9] at H
                have c9b0 : decide (x23_2 < (y102.length : Int)) = false := decide_eq_false c9
                have c9b9 : decide (x23_2 < (x6_2.length : Int)) = false := by rw [← hl6_2]; exact c9b0
                clear c9
                obtain rfl := Option.some.inj H
                have hcv19 := own_string (P := Try.prog) Try.underlying22 Try.underlying5 Try.underlying9 (Kd.own_of_R HO_6.out)
                go_wp2
                go_ret
                exact ⟨by first | rfl | (simp [errW_none, errW_some] <;> rfl) | (simp [*, errW_none, errW_some] <;> rfl), by repeat (first | (with_reducible first | exact HB.out | apply below_alloc | apply pw_below_drewN | apply below_drew1) | exact HB.out)⟩
        · rw [if_neg c5] at H
          exact absurd H (by simp)

/-! ### smithyardlaw1_awake: function 12 -/
def smithyardlaw1_awake.f (k : Nat)  : Option (Bool) := (blob_Digest.f k ([] : List Int)).bind fun t106 => (some (t106.toList == ([99, 98, 102, 50, 57, 99, 101, 52, 56, 52, 50, 50, 50, 51, 50, 53] : List UInt8)))
theorem smithyardlaw1_awake.mono : ∀ k, LeO (smithyardlaw1_awake.f k ) (smithyardlaw1_awake.f (k + 1) ) := by
  intro  k
  unfold smithyardlaw1_awake.f
  repeat' first
      | (with_reducible exact blob_Digest.mono _ _)
      | (with_reducible exact LeO.refl _)
      | (with_reducible exact LeO.none _)
      | (with_reducible refine LeO.ite ?_ ?_)
      | (with_reducible refine LeO.bind ?_ (fun _ => ?_))
      | exact blob_Digest.mono _ _
      | exact LeO.none _
      | refine LeO.ite ?_ ?_
      | refine LeO.bind ?_ (fun _ => ?_)
set_option maxHeartbeats 8000000 in
set_option maxRecDepth 100000 in
theorem smithyardlaw1_awake.calls (k : Nat)  (r : Bool) (w : World) (h : smithyardlaw1_awake.f k  = some r) :
    Calls Try.prog 12 #[] w fun e w' => e = .returned (.bool r) ∧ Below w.heap.size w w' := by
  have HB := Aside0.mk (Below.refl w.heap.size w)
  have H : ((blob_Digest.f k ([] : List Int)).bind fun t106 => (some (t106.toList == ([99, 98, 102, 50, 57, 99, 101, 52, 56, 52, 50, 50, 50, 51, 50, 53] : List UInt8)))) = some r := h
  clear h
  replace H := Option.bind_eq_some_iff.mp H
  obtain ⟨t106, A10, H⟩ := H
  replace H : (some (t106.toList == ([99, 98, 102, 50, 57, 99, 101, 52, 56, 52, 50, 50, 50, 51, 50, 53] : List UInt8))) = some r := H
  have A1 := Aside0.mk A10
  clear A10
  obtain rfl := Option.some.inj H
  go_enter Try.func12, Try.ntmps12
  go_wp2_with (first | ((with_reducible refine gate_callee (f := 9) rfl ?_); refine goesL_ (some 1) rfl rfl Try.func9 (by kernel_rfl) rfl #[.slice none 0 0] rfl (by (try simp only [List.map_toArray, List.map_cons, List.map_nil]); first | done | rfl | (simp only [List.length_drop, List.length_take]; rfl)) ?_; (refine (blob_Digest.calls k _ _ ([] : List Int) t106 _ ?side1 ?side2 A1.out).mono ?_); (case side1 => exact Kd.C_nil _ _); (case side2 => exact Nat.le_refl _); rintro e w2 ⟨rfl, hb⟩; refine ⟨_, rfl, ?_⟩; have n0_ := Aside0.mk (below_step (by repeat (first | (with_reducible first | exact HB.out | apply below_alloc | apply pw_below_drewN | apply below_drew1) | exact HB.out)) hb); clear HB; have HB := n0_; clear n0_; (try clear hb); (try clear hb2); (try clear hk); (try clear hi)))
  go_ret
  exact ⟨by first | rfl | (simp [errW_none, errW_some] <;> rfl) | (simp [*, errW_none, errW_some] <;> rfl), by repeat (first | (with_reducible first | exact HB.out | apply below_alloc | apply pw_below_drewN | apply below_drew1) | exact HB.out)⟩

/-! ### blob_cut: function 23 -/
mutual
def blob_cut.l0 : Nat → List Int → Int → Int → Int → Int → Int → Option (List Int)
  | 0, _, _, _, _, _, _ => none
  | k + 1, x0, x1, x2, x3, x9, x16 => if x16 < 15 then (blob_cut.l0 k x0 x1 x2 x3 ((x9 * 31) % 4294967296) (wrap64 (x16 + 1))) else (blob_cut.l1 k x0 x1 x2 x3 x9 ([] : List Int) 0 0 x0 (x0.length : Int) 0)
def blob_cut.l1 : Nat → List Int → Int → Int → Int → Int → List Int → Int → Int → List Int → Int → Int → Option (List Int)
  | 0, _, _, _, _, _, _, _, _, _, _, _ => none
  | k + 1, x0, x1, x2, x3, x9, x10, x11, x12, x21, x22, x23 => if x23 < x22 then (if 0 ≤ x23 then (if x23 < (x21.length : Int) then (if x23 ≥ 16 then (if 0 ≤ (wrap64 (x23 - 16)) then (if (wrap64 (x23 - 16)) < (x0.length : Int) then (if (wrap64 ((wrap64 (x23 + 1)) - x12)) ≥ x1 then (if 0 ≤ x2 then (if (Go.bits .and .u32 (((31 * ((x11 - (x9 * ((rd x0 (wrap64 (x23 - 16))) % 4294967296))) % 4294967296)) + (rd x21 x23)) % 4294967296) (((shl .u32 1 x2) - 1) % 4294967296)) = 0 then (if x10.length < 17592186044416 then (blob_cut.l1 k x0 x1 x2 x3 x9 (x10 ++ [wrap64 ((wrap64 (x23 + 1)) - x12)]) (((31 * ((x11 - (x9 * ((rd x0 (wrap64 (x23 - 16))) % 4294967296))) % 4294967296)) + (rd x21 x23)) % 4294967296) (wrap64 (x23 + 1)) x21 x22 (wrap64 (x23 + 1))) else (none)) else (if (wrap64 ((wrap64 (x23 + 1)) - x12)) ≥ x3 then (if x10.length < 17592186044416 then (blob_cut.l1 k x0 x1 x2 x3 x9 (x10 ++ [wrap64 ((wrap64 (x23 + 1)) - x12)]) (((31 * ((x11 - (x9 * ((rd x0 (wrap64 (x23 - 16))) % 4294967296))) % 4294967296)) + (rd x21 x23)) % 4294967296) (wrap64 (x23 + 1)) x21 x22 (wrap64 (x23 + 1))) else (none)) else (blob_cut.l1 k x0 x1 x2 x3 x9 x10 (((31 * ((x11 - (x9 * ((rd x0 (wrap64 (x23 - 16))) % 4294967296))) % 4294967296)) + (rd x21 x23)) % 4294967296) x12 x21 x22 (wrap64 (x23 + 1))))) else (none)) else (if (wrap64 ((wrap64 (x23 + 1)) - x12)) ≥ x3 then (if x10.length < 17592186044416 then (blob_cut.l1 k x0 x1 x2 x3 x9 (x10 ++ [wrap64 ((wrap64 (x23 + 1)) - x12)]) (((31 * ((x11 - (x9 * ((rd x0 (wrap64 (x23 - 16))) % 4294967296))) % 4294967296)) + (rd x21 x23)) % 4294967296) (wrap64 (x23 + 1)) x21 x22 (wrap64 (x23 + 1))) else (none)) else (blob_cut.l1 k x0 x1 x2 x3 x9 x10 (((31 * ((x11 - (x9 * ((rd x0 (wrap64 (x23 - 16))) % 4294967296))) % 4294967296)) + (rd x21 x23)) % 4294967296) x12 x21 x22 (wrap64 (x23 + 1))))) else (none)) else (none)) else (if (wrap64 ((wrap64 (x23 + 1)) - x12)) ≥ x1 then (if 0 ≤ x2 then (if (Go.bits .and .u32 (((31 * x11) + (rd x21 x23)) % 4294967296) (((shl .u32 1 x2) - 1) % 4294967296)) = 0 then (if x10.length < 17592186044416 then (blob_cut.l1 k x0 x1 x2 x3 x9 (x10 ++ [wrap64 ((wrap64 (x23 + 1)) - x12)]) (((31 * x11) + (rd x21 x23)) % 4294967296) (wrap64 (x23 + 1)) x21 x22 (wrap64 (x23 + 1))) else (none)) else (if (wrap64 ((wrap64 (x23 + 1)) - x12)) ≥ x3 then (if x10.length < 17592186044416 then (blob_cut.l1 k x0 x1 x2 x3 x9 (x10 ++ [wrap64 ((wrap64 (x23 + 1)) - x12)]) (((31 * x11) + (rd x21 x23)) % 4294967296) (wrap64 (x23 + 1)) x21 x22 (wrap64 (x23 + 1))) else (none)) else (blob_cut.l1 k x0 x1 x2 x3 x9 x10 (((31 * x11) + (rd x21 x23)) % 4294967296) x12 x21 x22 (wrap64 (x23 + 1))))) else (none)) else (if (wrap64 ((wrap64 (x23 + 1)) - x12)) ≥ x3 then (if x10.length < 17592186044416 then (blob_cut.l1 k x0 x1 x2 x3 x9 (x10 ++ [wrap64 ((wrap64 (x23 + 1)) - x12)]) (((31 * x11) + (rd x21 x23)) % 4294967296) (wrap64 (x23 + 1)) x21 x22 (wrap64 (x23 + 1))) else (none)) else (blob_cut.l1 k x0 x1 x2 x3 x9 x10 (((31 * x11) + (rd x21 x23)) % 4294967296) x12 x21 x22 (wrap64 (x23 + 1)))))) else (none)) else (none)) else (if x12 < (x0.length : Int) then (if x10.length < 17592186044416 then (some (x10 ++ [wrap64 ((x0.length : Int) - x12)])) else (none)) else (some x10))
end
def blob_cut.f (k : Nat) (l0 : List Int) (a1 : Int) (a2 : Int) (a3 : Int) : Option (List Int) := blob_cut.l0 k l0 a1 a2 a3 1 0
theorem blob_cut.mono_l : ∀ k, (∀ y0 y1 y2 y3 y4 y5, LeO (blob_cut.l0 k y0 y1 y2 y3 y4 y5) (blob_cut.l0 (k + 1) y0 y1 y2 y3 y4 y5)) ∧ (∀ y0 y1 y2 y3 y4 y5 y6 y7 y8 y9 y10, LeO (blob_cut.l1 k y0 y1 y2 y3 y4 y5 y6 y7 y8 y9 y10) (blob_cut.l1 (k + 1) y0 y1 y2 y3 y4 y5 y6 y7 y8 y9 y10))
  | 0 => ⟨fun _ _ _ _ _ _ r h => by simp [blob_cut.l0] at h, fun _ _ _ _ _ _ _ _ _ _ _ r h => by simp [blob_cut.l1] at h⟩
  | k + 1 => by
    obtain ⟨ih0, ih1⟩ := blob_cut.mono_l k
    refine ⟨?_, ?_⟩
    · intro y0 y1 y2 y3 y4 y5
      unfold blob_cut.l0
      repeat' first
      | (with_reducible exact ih0 _ _ _ _ _ _)
      | (with_reducible exact ih1 _ _ _ _ _ _ _ _ _ _ _)
      | (with_reducible exact LeO.refl _)
      | (with_reducible exact LeO.none _)
      | (with_reducible refine LeO.ite ?_ ?_)
      | (with_reducible refine LeO.bind ?_ (fun _ => ?_))
      | exact ih0 _ _ _ _ _ _
      | exact ih1 _ _ _ _ _ _ _ _ _ _ _
      | exact LeO.none _
      | refine LeO.ite ?_ ?_
      | refine LeO.bind ?_ (fun _ => ?_)
    · intro y0 y1 y2 y3 y4 y5 y6 y7 y8 y9 y10
      unfold blob_cut.l1
      repeat' first
      | (with_reducible exact ih0 _ _ _ _ _ _)
      | (with_reducible exact ih1 _ _ _ _ _ _ _ _ _ _ _)
      | (with_reducible exact LeO.refl _)
      | (with_reducible exact LeO.none _)
      | (with_reducible refine LeO.ite ?_ ?_)
      | (with_reducible refine LeO.bind ?_ (fun _ => ?_))
      | exact ih0 _ _ _ _ _ _
      | exact ih1 _ _ _ _ _ _ _ _ _ _ _
      | exact LeO.none _
      | refine LeO.ite ?_ ?_
      | refine LeO.bind ?_ (fun _ => ?_)
theorem blob_cut.mono : ∀ a0 a1 a2 a3 k, LeO (blob_cut.f k a0 a1 a2 a3) (blob_cut.f (k + 1) a0 a1 a2 a3) := by
  intro a0 a1 a2 a3 k
  obtain ⟨ih0, ih1⟩ := blob_cut.mono_l k
  unfold blob_cut.f
  repeat' first
      | (with_reducible exact ih0 _ _ _ _ _ _)
      | (with_reducible exact ih1 _ _ _ _ _ _ _ _ _ _ _)
      | (with_reducible exact LeO.refl _)
      | (with_reducible exact LeO.none _)
      | (with_reducible refine LeO.ite ?_ ?_)
      | (with_reducible refine LeO.bind ?_ (fun _ => ?_))
      | exact ih0 _ _ _ _ _ _
      | exact ih1 _ _ _ _ _ _ _ _ _ _ _
      | exact LeO.none _
      | refine LeO.ite ?_ ?_
      | refine LeO.bind ?_ (fun _ => ?_)
set_option maxHeartbeats 8000000 in
set_option maxRecDepth 100000 in
theorem blob_cut.calls (k : Nat) (A0 : Option Addr) (c0 : Nat) (l0 : List Int) (a1 : Int) (a2 : Int) (a3 : Int) (r : List Int) (w : World) (hr0 : Kd.C (Kd.int .u8) w A0 l0.length l0) (hc0 : l0.length ≤ c0) (h : blob_cut.f k l0 a1 a2 a3 = some r) :
    Calls Try.prog 23 #[.slice A0 l0.length c0, .int .i64 a1, .int .i64 a2, .int .i64 a3] w fun e w' => ∃ v0_ : Value, e = .returned (v0_) ∧ Kd.R (Kd.int .i64) 3 w' w.heap.size (fun _ => True) v0_ r ∧ Below w.heap.size w w' := by
  have HR0 := Aside0.mk hr0
  have HC0 := Aside0.mk hc0
  clear hr0 hc0
  have HB := Aside0.mk (Below.refl w.heap.size w)
  have H : (blob_cut.l0 k l0 a1 a2 a3 1 0) = some r := h
  clear h
  have H' := Aside0.mk H
  clear H
  go_enter Try.func23, Try.ntmps23
  go_wp2
  go_loopg [9, 16] k (fun kq v9 v16 w' => ∃ (x9_1 : Int) (x16_1 : Int), v9 = .int .u32 x9_1 ∧ v16 = .int .i64 x16_1 ∧ Aside0 (blob_cut.l0 kq l0 a1 a2 a3 x9_1 x16_1 = some r) ∧ Aside0 (kq ≤ k) ∧ Aside0 (Below w.heap.size w w'))
  case atStart => exact ⟨(1), (0), (by first | rfl | (simp; done) | (simp [*]; done)), (by first | rfl | (simp; done) | (simp [*]; done)), H', ⟨Nat.le_refl _⟩, ⟨by repeat (first | (with_reducible first | exact HB.out | apply below_alloc | apply pw_below_drewN | apply below_drew1) | exact HB.out)⟩⟩
  case round =>
    clear H'
    try clear c2
    try clear p2
    obtain ⟨x9_1, x16_1, rfl, rfl, HA, HK1, HB⟩ := hrel
    cases gk with
    | zero => exact absurd HA.out (by simp [blob_cut.l0])
    | succ k1 =>
      have H := HA.out
      clear HA
      simp only [blob_cut.l0] at H
      by_cases c5 : x16_1 < 15
      · rw [if_pos c5] at H
        have c5b0 : decide (x16_1 < 15) = true := decide_eq_true c5
        clear c5
        have H' := Aside0.mk H
        clear H
        go_wp2
        go_roundg k1
        case measure => have := HK1.out; omega
        case rel => exact ⟨((x9_1 * 31) % 4294967296), (wrap64 (x16_1 + 1)), (by first | rfl | (simp; done) | (simp [*]; done)), (by first | rfl | (simp; done) | (simp [*]; done)), H', ⟨by have := HK1.out; omega⟩, ⟨by repeat (first | (with_reducible first | exact HB.out | apply below_alloc | apply pw_below_drewN | apply below_drew1) | exact HB.out)⟩⟩
      · rw [if_neg c5] at H
        have c5b0 : decide (x16_1 < 15) = false := decide_eq_false c5
        clear c5
        have H' := Aside0.mk H
        clear H
        go_wp2
        go_loopg [10, 11, 12, 23] k1 (fun kq v10 v11 v12 v23 w' => ∃ (x10_2 : List Int) (x11_2 : Int) (x12_2 : Int) (x23_2 : Int), v11 = .int .u32 x11_2 ∧ v12 = .int .i64 x12_2 ∧ v23 = .int .i64 x23_2 ∧ Aside0 (blob_cut.l1 kq l0 a1 a2 a3 x9_1 x10_2 x11_2 x12_2 l0 (l0.length : Int) x23_2 = some r) ∧ Aside0 (kq ≤ k1) ∧ Aside0 (Kd.R (Kd.int .i64) 3 w' w.heap.size (fun _ => True) v10 x10_2) ∧ Aside0 (Below w.heap.size w w'))
        case atStart => exact ⟨(([] : List Int)), (0), (0), (0), (by first | rfl | (simp; done) | (simp [*]; done)), (by first | rfl | (simp; done) | (simp [*]; done)), (by first | rfl | (simp; done) | (simp [*]; done)), H', ⟨Nat.le_refl _⟩, ⟨by first | exact Kd.R_nil _ _ _ _ _ | exact Kd.N_nil _ _ _ _ _ | exact Kd.V_nil _ _ _ _ _ | exact Kd.Q_nil _ _ _ _ _ | exact Kd.S_nil _ _ _ _ _⟩, ⟨by repeat (first | (with_reducible first | exact HB.out | apply below_alloc | apply pw_below_drewN | apply below_drew1) | exact HB.out)⟩⟩
        case round =>
          clear H'
          try clear c2
          try clear p2
          try clear c5
          try clear c5b0
          try clear p2
          obtain ⟨x10_2, x11_2, x12_2, x23_2, rfl, rfl, rfl, HA, HK2, HO_10, HB⟩ := hrel
          cases gk with
          | zero => exact absurd HA.out (by simp [blob_cut.l1])
          | succ k2 =>
            have H := HA.out
            clear HA
            simp only [blob_cut.l1] at H
            by_cases c6 : x23_2 < (l0.length : Int)
            · rw [if_pos c6] at H
              have c6b0 : decide (x23_2 < (l0.length : Int)) = true := decide_eq_true c6
              clear c6
              by_cases c7 : 0 ≤ x23_2
              · rw [if_pos c7] at H
                have c7b0 : decide (0 ≤ x23_2) = true := decide_eq_true c7
                clear c7
                by_cases c8 : x23_2 < (l0.length : Int)
                · rw [if_pos c8] at H
                  have c8b0 : decide (x23_2 < (l0.length : Int)) = true := decide_eq_true c8
                  clear c8
                  by_cases c9 : x23_2 ≥ 16
                  · rw [if_pos c9] at H
                    have c9b0 : decide (16 ≤ x23_2) = true := decide_eq_true c9
                    clear c9
                    obtain ⟨ji10, hji10⟩ : ∃ j_ : Int, (wrap64 (x23_2 - 16)) = j_ := ⟨_, rfl⟩
                    replace H : (if 0 ≤ (ji10) then (if (ji10) < (l0.length : Int) then (if (wrap64 ((wrap64 (x23_2 + 1)) - x12_2)) ≥ a1 then (if 0 ≤ a2 then (if (Go.bits .and .u32 (((31 * ((x11_2 - (x9_1 * ((rd l0 (ji10)) % 4294967296))) % 4294967296)) + (rd l0 x23_2)) % 4294967296) (((shl .u32 1 a2) - 1) % 4294967296)) = 0 then (if x10_2.length < 17592186044416 then (blob_cut.l1 k2 l0 a1 a2 a3 x9_1 (x10_2 ++ [wrap64 ((wrap64 (x23_2 + 1)) - x12_2)]) (((31 * ((x11_2 - (x9_1 * ((rd l0 (ji10)) % 4294967296))) % 4294967296)) + (rd l0 x23_2)) % 4294967296) (wrap64 (x23_2 + 1)) l0 (l0.length : Int) (wrap64 (x23_2 + 1))) else (none)) else (if (wrap64 ((wrap64 (x23_2 + 1)) - x12_2)) ≥ a3 then (if x10_2.length < 17592186044416 then (blob_cut.l1 k2 l0 a1 a2 a3 x9_1 (x10_2 ++ [wrap64 ((wrap64 (x23_2 + 1)) - x12_2)]) (((31 * ((x11_2 - (x9_1 * ((rd l0 (ji10)) % 4294967296))) % 4294967296)) + (rd l0 x23_2)) % 4294967296) (wrap64 (x23_2 + 1)) l0 (l0.length : Int) (wrap64 (x23_2 + 1))) else (none)) else (blob_cut.l1 k2 l0 a1 a2 a3 x9_1 x10_2 (((31 * ((x11_2 - (x9_1 * ((rd l0 (ji10)) % 4294967296))) % 4294967296)) + (rd l0 x23_2)) % 4294967296) x12_2 l0 (l0.length : Int) (wrap64 (x23_2 + 1))))) else (none)) else (if (wrap64 ((wrap64 (x23_2 + 1)) - x12_2)) ≥ a3 then (if x10_2.length < 17592186044416 then (blob_cut.l1 k2 l0 a1 a2 a3 x9_1 (x10_2 ++ [wrap64 ((wrap64 (x23_2 + 1)) - x12_2)]) (((31 * ((x11_2 - (x9_1 * ((rd l0 (ji10)) % 4294967296))) % 4294967296)) + (rd l0 x23_2)) % 4294967296) (wrap64 (x23_2 + 1)) l0 (l0.length : Int) (wrap64 (x23_2 + 1))) else (none)) else (blob_cut.l1 k2 l0 a1 a2 a3 x9_1 x10_2 (((31 * ((x11_2 - (x9_1 * ((rd l0 (ji10)) % 4294967296))) % 4294967296)) + (rd l0 x23_2)) % 4294967296) x12_2 l0 (l0.length : Int) (wrap64 (x23_2 + 1))))) else (none)) else (none)) = some r := by first | (rw [hji10] at H; exact H) | (simp only [hji10] at H ⊢; exact H)
                    have hji10w : (IntKind.i64.wrap (x23_2 - 16)) = ji10 := (i64_w _).trans hji10
                    by_cases c11 : 0 ≤ (ji10)
                    · rw [if_pos c11] at H
                      have c11b0 : decide (0 ≤ (ji10)) = true := decide_eq_true c11
                      clear c11
                      by_cases c12 : (ji10) < (l0.length : Int)
                      · rw [if_pos c12] at H
                        have c12b0 : decide ((ji10) < (l0.length : Int)) = true := decide_eq_true c12
                        clear c12
                        by_cases c13 : (wrap64 ((wrap64 (x23_2 + 1)) - x12_2)) ≥ a1
                        · rw [if_pos c13] at H
                          have c13b0 : decide (a1 ≤ (wrap64 ((wrap64 (x23_2 + 1)) - x12_2))) = true := decide_eq_true c13
                          clear c13
                          by_cases c14 : 0 ≤ a2
                          · rw [if_pos c14] at H
                            have c14b0 := eq_true c14
                            have c14b1 : decide (0 ≤ a2) = true := decide_eq_true c14
                            clear c14
                            obtain ⟨ji15, hji15⟩ : ∃ j_ : Int, (shl .u32 1 a2) = j_ := ⟨_, rfl⟩
                            replace H : (if (Go.bits .and .u32 (((31 * ((x11_2 - (x9_1 * ((rd l0 (ji10)) % 4294967296))) % 4294967296)) + (rd l0 x23_2)) % 4294967296) (((ji15) - 1) % 4294967296)) = 0 then (if x10_2.length < 17592186044416 then (blob_cut.l1 k2 l0 a1 a2 a3 x9_1 (x10_2 ++ [wrap64 ((wrap64 (x23_2 + 1)) - x12_2)]) (((31 * ((x11_2 - (x9_1 * ((rd l0 (ji10)) % 4294967296))) % 4294967296)) + (rd l0 x23_2)) % 4294967296) (wrap64 (x23_2 + 1)) l0 (l0.length : Int) (wrap64 (x23_2 + 1))) else (none)) else (if (wrap64 ((wrap64 (x23_2 + 1)) - x12_2)) ≥ a3 then (if x10_2.length < 17592186044416 then (blob_cut.l1 k2 l0 a1 a2 a3 x9_1 (x10_2 ++ [wrap64 ((wrap64 (x23_2 + 1)) - x12_2)]) (((31 * ((x11_2 - (x9_1 * ((rd l0 (ji10)) % 4294967296))) % 4294967296)) + (rd l0 x23_2)) % 4294967296) (wrap64 (x23_2 + 1)) l0 (l0.length : Int) (wrap64 (x23_2 + 1))) else (none)) else (blob_cut.l1 k2 l0 a1 a2 a3 x9_1 x10_2 (((31 * ((x11_2 - (x9_1 * ((rd l0 (ji10)) % 4294967296))) % 4294967296)) + (rd l0 x23_2)) % 4294967296) x12_2 l0 (l0.length : Int) (wrap64 (x23_2 + 1))))) = some r := by first | (rw [hji15] at H; exact H) | (simp only [hji15] at H ⊢; exact H)
                            have hji15_ : (IntKind.u32.wrap (1 * 2 ^ min a2.toNat 32)) = ji15 := hji15
                            have hji15z : a2 ≤ 32 → (IntKind.u32.wrap (1 * 2 ^ a2.toNat)) = ji15 := shl_small hji15
                            have hji15u : (IntKind.u32.wrap (2 ^ min a2.toNat 32)) = ji15 := by have h_ := hji15_; rw [Int.one_mul] at h_; exact h_
                            have hji15v : a2 ≤ 32 → (IntKind.u32.wrap (2 ^ a2.toNat)) = ji15 := fun hle_ => by have h_ := hji15z hle_; rw [Int.one_mul] at h_; exact h_
                            by_cases c16 : (Go.bits .and .u32 (((31 * ((x11_2 - (x9_1 * ((rd l0 (ji10)) % 4294967296))) % 4294967296)) + (rd l0 x23_2)) % 4294967296) (((ji15) - 1) % 4294967296)) = 0
                            · rw [if_pos c16] at H
                              have c16b0 : ((Go.bits .and .u32 (((31 * ((x11_2 - (x9_1 * ((rd l0 (ji10)) % 4294967296))) % 4294967296)) + (rd l0 x23_2)) % 4294967296) (((ji15) - 1) % 4294967296)) == 0) = true := beq_iff_eq.mpr c16
                              have c16b1 : ((Go.bits .and .u32 (((31 * ((x11_2 - (x9_1 * ((rd l0 (ji10)) % 4294967296))) % 4294967296)) + (rd l0 x23_2)) % 4294967296) (((ji15) - 1) % 4294967296)) != 0) = false := bne_eq_false_iff_eq.mpr c16
                              clear c16
                              by_cases c17 : x10_2.length < 17592186044416
                              · rw [if_pos c17] at H
                                have LMc17 := Aside0.mk c17
                                clear c17
                                obtain ⟨y112, hy112⟩ : ∃ y_ : List Int, y_ = (x10_2 ++ [wrap64 ((wrap64 (x23_2 + 1)) - x12_2)]) := ⟨_, rfl⟩
                                replace H : (blob_cut.l1 k2 l0 a1 a2 a3 x9_1 y112 (((31 * ((x11_2 - (x9_1 * ((rd l0 (ji10)) % 4294967296))) % 4294967296)) + (rd l0 x23_2)) % 4294967296) (wrap64 (x23_2 + 1)) l0 (l0.length : Int) (wrap64 (x23_2 + 1))) = some r := by first | (rw [hy112]; with_reducible exact H) | (have H2_ := (Option.bind_some _ _).symm.trans H; rw [hy112]; with_reducible exact H2_) | (have H2_ := (Option.bind_some _ _).symm.trans H; with_reducible exact H2_) | with_reducible exact H | (rw [hy112]; exact H) | exact H
                                have Ny112 := Aside0.mk hy112
                                clear hy112
                                have H' := Aside0.mk H
                                clear H
                                have p110 : 0 ≤ (x23_2 : Int) := of_decide_eq_true (by first | (with_reducible assumption) | assumption)
                                have q110 : x23_2 < (l0.length : Int) := of_decide_eq_true (by first | (with_reducible assumption) | assumption)
                                obtain ⟨ad110, e110, hx110_0⟩ := Kd.at_int HR0.out x23_2 p110 q110
                                cases e110
                                replace hx110_0 := (HB.out.cell (World.block_lt_of_cell? w _ hx110_0)).trans hx110_0
                                replace p110 := eq_true p110
                                replace q110 := eq_true q110
                                have p111 : 0 ≤ ((ji10) : Int) := of_decide_eq_true (by first | (with_reducible assumption) | assumption)
                                have q111 : (ji10) < (l0.length : Int) := of_decide_eq_true (by first | (with_reducible assumption) | assumption)
                                obtain ⟨ad111, e111, hx111_0⟩ := Kd.at_int HR0.out (ji10) p111 q111
                                obtain rfl : ad110 = ad111 := (by injection e111)
                                replace hx111_0 := (HB.out.cell (World.block_lt_of_cell? w _ hx111_0)).trans hx111_0
                                replace p111 := eq_true p111
                                replace q111 := eq_true q111
                                go_wp2_with (first | ((with_reducible refine gate_builtin (b := .append) (xs := #[.tmp 65, .tmp 67]) rfl ?_); at_builtin; refine Kd.R_append (Kd.int .i64) (w0 := w) w.heap.size rfl (.tmp 65) (.tmp 67) 28 3 (.int .i64 0) 8 rfl Try.underlying28 info3 rfl (by decide) (by omega) u10 x10_2 (wrap64 ((wrap64 (x23_2 + 1)) - x12_2)) [.int .i64 (wrap64 ((wrap64 (x23_2 + 1)) - x12_2))] (fun _ => True) (fun _ => False) rfl rfl ?aP (fun _ hk => hk.elim) ?aF ?aO ?aB ?aS ?aL ?_; (case aP => exact rfl); (case aB => exact (by repeat (first | (with_reducible first | exact HB.out | apply below_alloc | apply pw_below_drewN | apply below_drew1) | exact HB.out))); (case aF => exact (fun _ _ => trivial)); (case aO => exact (by (with_reducible repeat (first | apply Kd.R_alloc | apply Kd.R_drewN | apply Kd.R_drew)); exact HO_10.out)); (case aS => exact (below_size (by repeat (first | (with_reducible first | exact HB.out | apply below_alloc | apply pw_below_drewN | apply below_drew1) | exact HB.out)))); (case aL => have := LMc17.out; omega); intro v113 w18 ho hb hg hat; rw [← Ny112.out] at ho; have n0_ := Aside0.mk (hb); have n1_ := Aside0.mk (ho); clear HB; clear HO_10; have HB := n0_; have HO114 := n1_; clear n0_ n1_; clear ho hb hg hat))
                                go_roundg k2
                                case measure => have := HK1.out; have := HK2.out; omega
                                case rel => exact ⟨(y112), (((31 * ((x11_2 - (x9_1 * ((rd l0 (ji10)) % 4294967296))) % 4294967296)) + (rd l0 x23_2)) % 4294967296), (wrap64 (x23_2 + 1)), (wrap64 (x23_2 + 1)), (by first | rfl | (simp; done) | (simp only [← hji10] <;> (first | rfl | simp)) | (simp [*]; done)), (by first | rfl | (simp; done) | (simp [*]; done)), (by first | rfl | (simp; done) | (simp [*]; done)), H', ⟨by have := HK1.out; have := HK2.out; omega⟩, ⟨by (with_reducible repeat (first | apply Kd.R_alloc | apply Kd.R_drewN | apply Kd.R_drew)); exact HO114.out⟩, ⟨by repeat (first | (with_reducible first | exact HB.out | apply below_alloc | apply pw_below_drewN | apply below_drew1) | exact HB.out)⟩⟩
                              · rw [if_neg c17] at H
                                exact absurd H (by simp)
                            · rw [if_neg c16] at H
                              have c16b0 : ((Go.bits .and .u32 (((31 * ((x11_2 - (x9_1 * ((rd l0 (ji10)) % 4294967296))) % 4294967296)) + (rd l0 x23_2)) % 4294967296) (((ji15) - 1) % 4294967296)) == 0) = false := beq_eq_false_iff_ne.mpr c16
                              have c16b1 : ((Go.bits .and .u32 (((31 * ((x11_2 - (x9_1 * ((rd l0 (ji10)) % 4294967296))) % 4294967296)) + (rd l0 x23_2)) % 4294967296) (((ji15) - 1) % 4294967296)) != 0) = true := bne_iff_ne.mpr c16
                              by_cases c19 : (wrap64 ((wrap64 (x23_2 + 1)) - x12_2)) ≥ a3
                              · rw [if_pos c19] at H
                                have c19b0 : decide (a3 ≤ (wrap64 ((wrap64 (x23_2 + 1)) - x12_2))) = true := decide_eq_true c19
                                clear c19
                                by_cases c20 : x10_2.length < 17592186044416
                                · rw [if_pos c20] at H
                                  have LMc20 := Aside0.mk c20
                                  clear c20
                                  obtain ⟨y115, hy115⟩ : ∃ y_ : List Int, y_ = (x10_2 ++ [wrap64 ((wrap64 (x23_2 + 1)) - x12_2)]) := ⟨_, rfl⟩
                                  replace H : (blob_cut.l1 k2 l0 a1 a2 a3 x9_1 y115 (((31 * ((x11_2 - (x9_1 * ((rd l0 (ji10)) % 4294967296))) % 4294967296)) + (rd l0 x23_2)) % 4294967296) (wrap64 (x23_2 + 1)) l0 (l0.length : Int) (wrap64 (x23_2 + 1))) = some r := by first | (rw [hy115]; with_reducible exact H) | (have H2_ := (Option.bind_some _ _).symm.trans H; rw [hy115]; with_reducible exact H2_) | (have H2_ := (Option.bind_some _ _).symm.trans H; with_reducible exact H2_) | with_reducible exact H | (rw [hy115]; exact H) | exact H
                                  have Ny115 := Aside0.mk hy115
                                  clear hy115
                                  have H' := Aside0.mk H
                                  clear H
                                  have p110 : 0 ≤ (x23_2 : Int) := of_decide_eq_true (by first | (with_reducible assumption) | assumption)
                                  have q110 : x23_2 < (l0.length : Int) := of_decide_eq_true (by first | (with_reducible assumption) | assumption)
                                  obtain ⟨ad110, e110, hx110_0⟩ := Kd.at_int HR0.out x23_2 p110 q110
                                  cases e110
                                  replace hx110_0 := (HB.out.cell (World.block_lt_of_cell? w _ hx110_0)).trans hx110_0
                                  replace p110 := eq_true p110
                                  replace q110 := eq_true q110
                                  have p111 : 0 ≤ ((ji10) : Int) := of_decide_eq_true (by first | (with_reducible assumption) | assumption)
                                  have q111 : (ji10) < (l0.length : Int) := of_decide_eq_true (by first | (with_reducible assumption) | assumption)
                                  obtain ⟨ad111, e111, hx111_0⟩ := Kd.at_int HR0.out (ji10) p111 q111
                                  obtain rfl : ad110 = ad111 := (by injection e111)
                                  replace hx111_0 := (HB.out.cell (World.block_lt_of_cell? w _ hx111_0)).trans hx111_0
                                  replace p111 := eq_true p111
                                  replace q111 := eq_true q111
                                  go_wp2_with (first | ((with_reducible refine gate_builtin (b := .append) (xs := #[.tmp 65, .tmp 67]) rfl ?_); at_builtin; refine Kd.R_append (Kd.int .i64) (w0 := w) w.heap.size rfl (.tmp 65) (.tmp 67) 28 3 (.int .i64 0) 8 rfl Try.underlying28 info3 rfl (by decide) (by omega) u10 x10_2 (wrap64 ((wrap64 (x23_2 + 1)) - x12_2)) [.int .i64 (wrap64 ((wrap64 (x23_2 + 1)) - x12_2))] (fun _ => True) (fun _ => False) rfl rfl ?aP (fun _ hk => hk.elim) ?aF ?aO ?aB ?aS ?aL ?_; (case aP => exact rfl); (case aB => exact (by repeat (first | (with_reducible first | exact HB.out | apply below_alloc | apply pw_below_drewN | apply below_drew1) | exact HB.out))); (case aF => exact (fun _ _ => trivial)); (case aO => exact (by (with_reducible repeat (first | apply Kd.R_alloc | apply Kd.R_drewN | apply Kd.R_drew)); exact HO_10.out)); (case aS => exact (below_size (by repeat (first | (with_reducible first | exact HB.out | apply below_alloc | apply pw_below_drewN | apply below_drew1) | exact HB.out)))); (case aL => have := LMc20.out; omega); intro v116 w21 ho hb hg hat; rw [← Ny115.out] at ho; have n0_ := Aside0.mk (hb); have n1_ := Aside0.mk (ho); clear HB; clear HO_10; have HB := n0_; have HO117 := n1_; clear n0_ n1_; clear ho hb hg hat))
                                  go_roundg k2
                                  case measure => have := HK1.out; have := HK2.out; omega
                                  case rel => exact ⟨(y115), (((31 * ((x11_2 - (x9_1 * ((rd l0 (ji10)) % 4294967296))) % 4294967296)) + (rd l0 x23_2)) % 4294967296), (wrap64 (x23_2 + 1)), (wrap64 (x23_2 + 1)), (by first | rfl | (simp; done) | (simp only [← hji10] <;> (first | rfl | simp)) | (simp [*]; done)), (by first | rfl | (simp; done) | (simp [*]; done)), (by first | rfl | (simp; done) | (simp [*]; done)), H', ⟨by have := HK1.out; have := HK2.out; omega⟩, ⟨by (with_reducible repeat (first | apply Kd.R_alloc | apply Kd.R_drewN | apply Kd.R_drew)); exact HO117.out⟩, ⟨by repeat (first | (with_reducible first | exact HB.out | apply below_alloc | apply pw_below_drewN | apply below_drew1) | exact HB.out)⟩⟩
                                · rw [if_neg c20] at H
                                  exact absurd H (by simp)
                              · rw [if_neg c19] at H
                                have c19b0 : decide (a3 ≤ (wrap64 ((wrap64 (x23_2 + 1)) - x12_2))) = false := decide_eq_false c19
                                clear c19
                                have H' := Aside0.mk H
                                clear H
                                have p110 : 0 ≤ (x23_2 : Int) := of_decide_eq_true (by first | (with_reducible assumption) | assumption)
                                have q110 : x23_2 < (l0.length : Int) := of_decide_eq_true (by first | (with_reducible assumption) | assumption)
                                obtain ⟨ad110, e110, hx110_0⟩ := Kd.at_int HR0.out x23_2 p110 q110
                                cases e110
                                replace hx110_0 := (HB.out.cell (World.block_lt_of_cell? w _ hx110_0)).trans hx110_0
                                replace p110 := eq_true p110
                                replace q110 := eq_true q110
                                have p111 : 0 ≤ ((ji10) : Int) := of_decide_eq_true (by first | (with_reducible assumption) | assumption)
                                have q111 : (ji10) < (l0.length : Int) := of_decide_eq_true (by first | (with_reducible assumption) | assumption)
                                obtain ⟨ad111, e111, hx111_0⟩ := Kd.at_int HR0.out (ji10) p111 q111
                                obtain rfl : ad110 = ad111 := (by injection e111)
                                replace hx111_0 := (HB.out.cell (World.block_lt_of_cell? w _ hx111_0)).trans hx111_0
                                replace p111 := eq_true p111
                                replace q111 := eq_true q111
                                go_wp2
                                go_roundg k2
                                case measure => have := HK1.out; have := HK2.out; omega
                                case rel => exact ⟨(x10_2), (((31 * ((x11_2 - (x9_1 * ((rd l0 (ji10)) % 4294967296))) % 4294967296)) + (rd l0 x23_2)) % 4294967296), (x12_2), (wrap64 (x23_2 + 1)), (by first | rfl | (simp; done) | (simp only [← hji10] <;> (first | rfl | simp)) | (simp [*]; done)), (by first | rfl | (simp; done) | (simp [*]; done)), (by first | rfl | (simp; done) | (simp [*]; done)), H', ⟨by have := HK1.out; have := HK2.out; omega⟩, ⟨by (with_reducible repeat (first | apply Kd.R_alloc | apply Kd.R_drewN | apply Kd.R_drew)); exact HO_10.out⟩, ⟨by repeat (first | (with_reducible first | exact HB.out | apply below_alloc | apply pw_below_drewN | apply below_drew1) | exact HB.out)⟩⟩
                          · rw [if_neg c14] at H
                            exact absurd H (by simp)
                        · rw [if_neg c13] at H
                          have c13b0 : decide (a1 ≤ (wrap64 ((wrap64 (x23_2 + 1)) - x12_2))) = false := decide_eq_false c13
                          clear c13
                          by_cases c22 : (wrap64 ((wrap64 (x23_2 + 1)) - x12_2)) ≥ a3
                          · rw [if_pos c22] at H
                            have c22b0 : decide (a3 ≤ (wrap64 ((wrap64 (x23_2 + 1)) - x12_2))) = true := decide_eq_true c22
                            clear c22
                            by_cases c23 : x10_2.length < 17592186044416
                            · rw [if_pos c23] at H
                              have LMc23 := Aside0.mk c23
                              clear c23
                              obtain ⟨y118, hy118⟩ : ∃ y_ : List Int, y_ = (x10_2 ++ [wrap64 ((wrap64 (x23_2 + 1)) - x12_2)]) := ⟨_, rfl⟩
                              replace H : (blob_cut.l1 k2 l0 a1 a2 a3 x9_1 y118 (((31 * ((x11_2 - (x9_1 * ((rd l0 (ji10)) % 4294967296))) % 4294967296)) + (rd l0 x23_2)) % 4294967296) (wrap64 (x23_2 + 1)) l0 (l0.length : Int) (wrap64 (x23_2 + 1))) = some r := by first | (rw [hy118]; with_reducible exact H) | (have H2_ := (Option.bind_some _ _).symm.trans H; rw [hy118]; with_reducible exact H2_) | (have H2_ := (Option.bind_some _ _).symm.trans H; with_reducible exact H2_) | with_reducible exact H | (rw [hy118]; exact H) | exact H
                              have Ny118 := Aside0.mk hy118
                              clear hy118
                              have H' := Aside0.mk H
                              clear H
                              have p110 : 0 ≤ (x23_2 : Int) := of_decide_eq_true (by first | (with_reducible assumption) | assumption)
                              have q110 : x23_2 < (l0.length : Int) := of_decide_eq_true (by first | (with_reducible assumption) | assumption)
                              obtain ⟨ad110, e110, hx110_0⟩ := Kd.at_int HR0.out x23_2 p110 q110
                              cases e110
                              replace hx110_0 := (HB.out.cell (World.block_lt_of_cell? w _ hx110_0)).trans hx110_0
                              replace p110 := eq_true p110
                              replace q110 := eq_true q110
                              have p111 : 0 ≤ ((ji10) : Int) := of_decide_eq_true (by first | (with_reducible assumption) | assumption)
                              have q111 : (ji10) < (l0.length : Int) := of_decide_eq_true (by first | (with_reducible assumption) | assumption)
                              obtain ⟨ad111, e111, hx111_0⟩ := Kd.at_int HR0.out (ji10) p111 q111
                              obtain rfl : ad110 = ad111 := (by injection e111)
                              replace hx111_0 := (HB.out.cell (World.block_lt_of_cell? w _ hx111_0)).trans hx111_0
                              replace p111 := eq_true p111
                              replace q111 := eq_true q111
                              go_wp2_with (first | ((with_reducible refine gate_builtin (b := .append) (xs := #[.tmp 65, .tmp 67]) rfl ?_); at_builtin; refine Kd.R_append (Kd.int .i64) (w0 := w) w.heap.size rfl (.tmp 65) (.tmp 67) 28 3 (.int .i64 0) 8 rfl Try.underlying28 info3 rfl (by decide) (by omega) u10 x10_2 (wrap64 ((wrap64 (x23_2 + 1)) - x12_2)) [.int .i64 (wrap64 ((wrap64 (x23_2 + 1)) - x12_2))] (fun _ => True) (fun _ => False) rfl rfl ?aP (fun _ hk => hk.elim) ?aF ?aO ?aB ?aS ?aL ?_; (case aP => exact rfl); (case aB => exact (by repeat (first | (with_reducible first | exact HB.out | apply below_alloc | apply pw_below_drewN | apply below_drew1) | exact HB.out))); (case aF => exact (fun _ _ => trivial)); (case aO => exact (by (with_reducible repeat (first | apply Kd.R_alloc | apply Kd.R_drewN | apply Kd.R_drew)); exact HO_10.out)); (case aS => exact (below_size (by repeat (first | (with_reducible first | exact HB.out | apply below_alloc | apply pw_below_drewN | apply below_drew1) | exact HB.out)))); (case aL => have := LMc23.out; omega); intro v119 w24 ho hb hg hat; rw [← Ny118.out] at ho; have n0_ := Aside0.mk (hb); have n1_ := Aside0.mk (ho); clear HB; clear HO_10; have HB := n0_; have HO120 := n1_; clear n0_ n1_; clear ho hb hg hat))
                              go_roundg k2
                              case measure => have := HK1.out; have := HK2.out; omega
                              case rel => exact ⟨(y118), (((31 * ((x11_2 - (x9_1 * ((rd l0 (ji10)) % 4294967296))) % 4294967296)) + (rd l0 x23_2)) % 4294967296), (wrap64 (x23_2 + 1)), (wrap64 (x23_2 + 1)), (by first | rfl | (simp; done) | (simp only [← hji10] <;> (first | rfl | simp)) | (simp [*]; done)), (by first | rfl | (simp; done) | (simp [*]; done)), (by first | rfl | (simp; done) | (simp [*]; done)), H', ⟨by have := HK1.out; have := HK2.out; omega⟩, ⟨by (with_reducible repeat (first | apply Kd.R_alloc | apply Kd.R_drewN | apply Kd.R_drew)); exact HO120.out⟩, ⟨by repeat (first | (with_reducible first | exact HB.out | apply below_alloc | apply pw_below_drewN | apply below_drew1) | exact HB.out)⟩⟩
                            · rw [if_neg c23] at H
                              exact absurd H (by simp)
                          · rw [if_neg c22] at H
                            have c22b0 : decide (a3 ≤ (wrap64 ((wrap64 (x23_2 + 1)) - x12_2))) = false := decide_eq_false c22
                            clear c22
                            have H' := Aside0.mk H
                            clear H
                            have p110 : 0 ≤ (x23_2 : Int) := of_decide_eq_true (by first | (with_reducible assumption) | assumption)
                            have q110 : x23_2 < (l0.length : Int) := of_decide_eq_true (by first | (with_reducible assumption) | assumption)
                            obtain ⟨ad110, e110, hx110_0⟩ := Kd.at_int HR0.out x23_2 p110 q110
                            cases e110
                            replace hx110_0 := (HB.out.cell (World.block_lt_of_cell? w _ hx110_0)).trans hx110_0
                            replace p110 := eq_true p110
                            replace q110 := eq_true q110
                            have p111 : 0 ≤ ((ji10) : Int) := of_decide_eq_true (by first | (with_reducible assumption) | assumption)
                            have q111 : (ji10) < (l0.length : Int) := of_decide_eq_true (by first | (with_reducible assumption) | assumption)
                            obtain ⟨ad111, e111, hx111_0⟩ := Kd.at_int HR0.out (ji10) p111 q111
                            obtain rfl : ad110 = ad111 := (by injection e111)
                            replace hx111_0 := (HB.out.cell (World.block_lt_of_cell? w _ hx111_0)).trans hx111_0
                            replace p111 := eq_true p111
                            replace q111 := eq_true q111
                            go_wp2
                            go_roundg k2
                            case measure => have := HK1.out; have := HK2.out; omega
                            case rel => exact ⟨(x10_2), (((31 * ((x11_2 - (x9_1 * ((rd l0 (ji10)) % 4294967296))) % 4294967296)) + (rd l0 x23_2)) % 4294967296), (x12_2), (wrap64 (x23_2 + 1)), (by first | rfl | (simp; done) | (simp only [← hji10] <;> (first | rfl | simp)) | (simp [*]; done)), (by first | rfl | (simp; done) | (simp [*]; done)), (by first | rfl | (simp; done) | (simp [*]; done)), H', ⟨by have := HK1.out; have := HK2.out; omega⟩, ⟨by (with_reducible repeat (first | apply Kd.R_alloc | apply Kd.R_drewN | apply Kd.R_drew)); exact HO_10.out⟩, ⟨by repeat (first | (with_reducible first | exact HB.out | apply below_alloc | apply pw_below_drewN | apply below_drew1) | exact HB.out)⟩⟩
                      · rw [if_neg c12] at H
                        exact absurd H (by simp)
                    · rw [if_neg c11] at H
                      exact absurd H (by simp)
                  · rw [if_neg c9] at H
                    have c9b0 : decide (16 ≤ x23_2) = false := decide_eq_false c9
                    clear c9
                    by_cases c25 : (wrap64 ((wrap64 (x23_2 + 1)) - x12_2)) ≥ a1
                    · rw [if_pos c25] at H
                      have c25b0 : decide (a1 ≤ (wrap64 ((wrap64 (x23_2 + 1)) - x12_2))) = true := decide_eq_true c25
                      clear c25
                      by_cases c26 : 0 ≤ a2
                      · rw [if_pos c26] at H
                        have c26b0 := eq_true c26
                        have c26b1 : decide (0 ≤ a2) = true := decide_eq_true c26
                        clear c26
                        obtain ⟨ji27, hji27⟩ : ∃ j_ : Int, (shl .u32 1 a2) = j_ := ⟨_, rfl⟩
                        replace H : (if (Go.bits .and .u32 (((31 * x11_2) + (rd l0 x23_2)) % 4294967296) (((ji27) - 1) % 4294967296)) = 0 then (if x10_2.length < 17592186044416 then (blob_cut.l1 k2 l0 a1 a2 a3 x9_1 (x10_2 ++ [wrap64 ((wrap64 (x23_2 + 1)) - x12_2)]) (((31 * x11_2) + (rd l0 x23_2)) % 4294967296) (wrap64 (x23_2 + 1)) l0 (l0.length : Int) (wrap64 (x23_2 + 1))) else (none)) else (if (wrap64 ((wrap64 (x23_2 + 1)) - x12_2)) ≥ a3 then (if x10_2.length < 17592186044416 then (blob_cut.l1 k2 l0 a1 a2 a3 x9_1 (x10_2 ++ [wrap64 ((wrap64 (x23_2 + 1)) - x12_2)]) (((31 * x11_2) + (rd l0 x23_2)) % 4294967296) (wrap64 (x23_2 + 1)) l0 (l0.length : Int) (wrap64 (x23_2 + 1))) else (none)) else (blob_cut.l1 k2 l0 a1 a2 a3 x9_1 x10_2 (((31 * x11_2) + (rd l0 x23_2)) % 4294967296) x12_2 l0 (l0.length : Int) (wrap64 (x23_2 + 1))))) = some r := by first | (rw [hji27] at H; exact H) | (simp only [hji27] at H ⊢; exact H)
                        have hji27_ : (IntKind.u32.wrap (1 * 2 ^ min a2.toNat 32)) = ji27 := hji27
                        have hji27z : a2 ≤ 32 → (IntKind.u32.wrap (1 * 2 ^ a2.toNat)) = ji27 := shl_small hji27
                        have hji27u : (IntKind.u32.wrap (2 ^ min a2.toNat 32)) = ji27 := by have h_ := hji27_; rw [Int.one_mul] at h_; exact h_
                        have hji27v : a2 ≤ 32 → (IntKind.u32.wrap (2 ^ a2.toNat)) = ji27 := fun hle_ => by have h_ := hji27z hle_; rw [Int.one_mul] at h_; exact h_
                        by_cases c28 : (Go.bits .and .u32 (((31 * x11_2) + (rd l0 x23_2)) % 4294967296) (((ji27) - 1) % 4294967296)) = 0
                        · rw [if_pos c28] at H
                          have c28b0 : ((Go.bits .and .u32 (((31 * x11_2) + (rd l0 x23_2)) % 4294967296) (((ji27) - 1) % 4294967296)) == 0) = true := beq_iff_eq.mpr c28
                          have c28b1 : ((Go.bits .and .u32 (((31 * x11_2) + (rd l0 x23_2)) % 4294967296) (((ji27) - 1) % 4294967296)) != 0) = false := bne_eq_false_iff_eq.mpr c28
                          clear c28
                          by_cases c29 : x10_2.length < 17592186044416
                          · rw [if_pos c29] at H
                            have LMc29 := Aside0.mk c29
                            clear c29
                            obtain ⟨y121, hy121⟩ : ∃ y_ : List Int, y_ = (x10_2 ++ [wrap64 ((wrap64 (x23_2 + 1)) - x12_2)]) := ⟨_, rfl⟩
                            replace H : (blob_cut.l1 k2 l0 a1 a2 a3 x9_1 y121 (((31 * x11_2) + (rd l0 x23_2)) % 4294967296) (wrap64 (x23_2 + 1)) l0 (l0.length : Int) (wrap64 (x23_2 + 1))) = some r := by first | (rw [hy121]; with_reducible exact H) | (have H2_ := (Option.bind_some _ _).symm.trans H; rw [hy121]; with_reducible exact H2_) | (have H2_ := (Option.bind_some _ _).symm.trans H; with_reducible exact H2_) | with_reducible exact H | (rw [hy121]; exact H) | exact H
                            have Ny121 := Aside0.mk hy121
                            clear hy121
                            have H' := Aside0.mk H
                            clear H
                            have p110 : 0 ≤ (x23_2 : Int) := of_decide_eq_true (by first | (with_reducible assumption) | assumption)
                            have q110 : x23_2 < (l0.length : Int) := of_decide_eq_true (by first | (with_reducible assumption) | assumption)
                            obtain ⟨ad110, e110, hx110_0⟩ := Kd.at_int HR0.out x23_2 p110 q110
                            cases e110
                            replace hx110_0 := (HB.out.cell (World.block_lt_of_cell? w _ hx110_0)).trans hx110_0
                            replace p110 := eq_true p110
                            replace q110 := eq_true q110
                            go_wp2_with (first | ((with_reducible refine gate_builtin (b := .append) (xs := #[.tmp 65, .tmp 67]) rfl ?_); at_builtin; refine Kd.R_append (Kd.int .i64) (w0 := w) w.heap.size rfl (.tmp 65) (.tmp 67) 28 3 (.int .i64 0) 8 rfl Try.underlying28 info3 rfl (by decide) (by omega) u10 x10_2 (wrap64 ((wrap64 (x23_2 + 1)) - x12_2)) [.int .i64 (wrap64 ((wrap64 (x23_2 + 1)) - x12_2))] (fun _ => True) (fun _ => False) rfl rfl ?aP (fun _ hk => hk.elim) ?aF ?aO ?aB ?aS ?aL ?_; (case aP => exact rfl); (case aB => exact (by repeat (first | (with_reducible first | exact HB.out | apply below_alloc | apply pw_below_drewN | apply below_drew1) | exact HB.out))); (case aF => exact (fun _ _ => trivial)); (case aO => exact (by (with_reducible repeat (first | apply Kd.R_alloc | apply Kd.R_drewN | apply Kd.R_drew)); exact HO_10.out)); (case aS => exact (below_size (by repeat (first | (with_reducible first | exact HB.out | apply below_alloc | apply pw_below_drewN | apply below_drew1) | exact HB.out)))); (case aL => have := LMc29.out; omega); intro v122 w30 ho hb hg hat; rw [← Ny121.out] at ho; have n0_ := Aside0.mk (hb); have n1_ := Aside0.mk (ho); clear HB; clear HO_10; have HB := n0_; have HO123 := n1_; clear n0_ n1_; clear ho hb hg hat))
                            go_roundg k2
                            case measure => have := HK1.out; have := HK2.out; omega
                            case rel => exact ⟨(y121), (((31 * x11_2) + (rd l0 x23_2)) % 4294967296), (wrap64 (x23_2 + 1)), (wrap64 (x23_2 + 1)), (by first | rfl | (simp; done) | (simp [*]; done)), (by first | rfl | (simp; done) | (simp [*]; done)), (by first | rfl | (simp; done) | (simp [*]; done)), H', ⟨by have := HK1.out; have := HK2.out; omega⟩, ⟨by (with_reducible repeat (first | apply Kd.R_alloc | apply Kd.R_drewN | apply Kd.R_drew)); exact HO123.out⟩, ⟨by repeat (first | (with_reducible first | exact HB.out | apply below_alloc | apply pw_below_drewN | apply below_drew1) | exact HB.out)⟩⟩
                          · rw [if_neg c29] at H
                            exact absurd H (by simp)
                        · rw [if_neg c28] at H
                          have c28b0 : ((Go.bits .and .u32 (((31 * x11_2) + (rd l0 x23_2)) % 4294967296) (((ji27) - 1) % 4294967296)) == 0) = false := beq_eq_false_iff_ne.mpr c28
                          have c28b1 : ((Go.bits .and .u32 (((31 * x11_2) + (rd l0 x23_2)) % 4294967296) (((ji27) - 1) % 4294967296)) != 0) = true := bne_iff_ne.mpr c28
                          by_cases c31 : (wrap64 ((wrap64 (x23_2 + 1)) - x12_2)) ≥ a3
                          · rw [if_pos c31] at H
                            have c31b0 : decide (a3 ≤ (wrap64 ((wrap64 (x23_2 + 1)) - x12_2))) = true := decide_eq_true c31
                            clear c31
                            by_cases c32 : x10_2.length < 17592186044416
                            · rw [if_pos c32] at H
                              have LMc32 := Aside0.mk c32
                              clear c32
                              obtain ⟨y124, hy124⟩ : ∃ y_ : List Int, y_ = (x10_2 ++ [wrap64 ((wrap64 (x23_2 + 1)) - x12_2)]) := ⟨_, rfl⟩
                              replace H : (blob_cut.l1 k2 l0 a1 a2 a3 x9_1 y124 (((31 * x11_2) + (rd l0 x23_2)) % 4294967296) (wrap64 (x23_2 + 1)) l0 (l0.length : Int) (wrap64 (x23_2 + 1))) = some r := by first | (rw [hy124]; with_reducible exact H) | (have H2_ := (Option.bind_some _ _).symm.trans H; rw [hy124]; with_reducible exact H2_) | (have H2_ := (Option.bind_some _ _).symm.trans H; with_reducible exact H2_) | with_reducible exact H | (rw [hy124]; exact H) | exact H
                              have Ny124 := Aside0.mk hy124
                              clear hy124
                              have H' := Aside0.mk H
                              clear H
                              have p110 : 0 ≤ (x23_2 : Int) := of_decide_eq_true (by first | (with_reducible assumption) | assumption)
                              have q110 : x23_2 < (l0.length : Int) := of_decide_eq_true (by first | (with_reducible assumption) | assumption)
                              obtain ⟨ad110, e110, hx110_0⟩ := Kd.at_int HR0.out x23_2 p110 q110
                              cases e110
                              replace hx110_0 := (HB.out.cell (World.block_lt_of_cell? w _ hx110_0)).trans hx110_0
                              replace p110 := eq_true p110
                              replace q110 := eq_true q110
                              go_wp2_with (first | ((with_reducible refine gate_builtin (b := .append) (xs := #[.tmp 65, .tmp 67]) rfl ?_); at_builtin; refine Kd.R_append (Kd.int .i64) (w0 := w) w.heap.size rfl (.tmp 65) (.tmp 67) 28 3 (.int .i64 0) 8 rfl Try.underlying28 info3 rfl (by decide) (by omega) u10 x10_2 (wrap64 ((wrap64 (x23_2 + 1)) - x12_2)) [.int .i64 (wrap64 ((wrap64 (x23_2 + 1)) - x12_2))] (fun _ => True) (fun _ => False) rfl rfl ?aP (fun _ hk => hk.elim) ?aF ?aO ?aB ?aS ?aL ?_; (case aP => exact rfl); (case aB => exact (by repeat (first | (with_reducible first | exact HB.out | apply below_alloc | apply pw_below_drewN | apply below_drew1) | exact HB.out))); (case aF => exact (fun _ _ => trivial)); (case aO => exact (by (with_reducible repeat (first | apply Kd.R_alloc | apply Kd.R_drewN | apply Kd.R_drew)); exact HO_10.out)); (case aS => exact (below_size (by repeat (first | (with_reducible first | exact HB.out | apply below_alloc | apply pw_below_drewN | apply below_drew1) | exact HB.out)))); (case aL => have := LMc32.out; omega); intro v125 w33 ho hb hg hat; rw [← Ny124.out] at ho; have n0_ := Aside0.mk (hb); have n1_ := Aside0.mk (ho); clear HB; clear HO_10; have HB := n0_; have HO126 := n1_; clear n0_ n1_; clear ho hb hg hat))
                              go_roundg k2
                              case measure => have := HK1.out; have := HK2.out; omega
                              case rel => exact ⟨(y124), (((31 * x11_2) + (rd l0 x23_2)) % 4294967296), (wrap64 (x23_2 + 1)), (wrap64 (x23_2 + 1)), (by first | rfl | (simp; done) | (simp [*]; done)), (by first | rfl | (simp; done) | (simp [*]; done)), (by first | rfl | (simp; done) | (simp [*]; done)), H', ⟨by have := HK1.out; have := HK2.out; omega⟩, ⟨by (with_reducible repeat (first | apply Kd.R_alloc | apply Kd.R_drewN | apply Kd.R_drew)); exact HO126.out⟩, ⟨by repeat (first | (with_reducible first | exact HB.out | apply below_alloc | apply pw_below_drewN | apply below_drew1) | exact HB.out)⟩⟩
                            · rw [if_neg c32] at H
                              exact absurd H (by simp)
                          · rw [if_neg c31] at H
                            have c31b0 : decide (a3 ≤ (wrap64 ((wrap64 (x23_2 + 1)) - x12_2))) = false := decide_eq_false c31
                            clear c31
                            have H' := Aside0.mk H
                            clear H
                            have p110 : 0 ≤ (x23_2 : Int) := of_decide_eq_true (by first | (with_reducible assumption) | assumption)
                            have q110 : x23_2 < (l0.length : Int) := of_decide_eq_true (by first | (with_reducible assumption) | assumption)
                            obtain ⟨ad110, e110, hx110_0⟩ := Kd.at_int HR0.out x23_2 p110 q110
                            cases e110
                            replace hx110_0 := (HB.out.cell (World.block_lt_of_cell? w _ hx110_0)).trans hx110_0
                            replace p110 := eq_true p110
                            replace q110 := eq_true q110
                            go_wp2
                            go_roundg k2
                            case measure => have := HK1.out; have := HK2.out; omega
                            case rel => exact ⟨(x10_2), (((31 * x11_2) + (rd l0 x23_2)) % 4294967296), (x12_2), (wrap64 (x23_2 + 1)), (by first | rfl | (simp; done) | (simp [*]; done)), (by first | rfl | (simp; done) | (simp [*]; done)), (by first | rfl | (simp; done) | (simp [*]; done)), H', ⟨by have := HK1.out; have := HK2.out; omega⟩, ⟨by (with_reducible repeat (first | apply Kd.R_alloc | apply Kd.R_drewN | apply Kd.R_drew)); exact HO_10.out⟩, ⟨by repeat (first | (with_reducible first | exact HB.out | apply below_alloc | apply pw_below_drewN | apply below_drew1) | exact HB.out)⟩⟩
                      · rw [if_neg c26] at H
                        exact absurd H (by simp)
                    · rw [if_neg c25] at H
                      have c25b0 : decide (a1 ≤ (wrap64 ((wrap64 (x23_2 + 1)) - x12_2))) = false := decide_eq_false c25
                      clear c25
                      by_cases c34 : (wrap64 ((wrap64 (x23_2 + 1)) - x12_2)) ≥ a3
                      · rw [if_pos c34] at H
                        have c34b0 : decide (a3 ≤ (wrap64 ((wrap64 (x23_2 + 1)) - x12_2))) = true := decide_eq_true c34
                        clear c34
                        by_cases c35 : x10_2.length < 17592186044416
                        · rw [if_pos c35] at H
                          have LMc35 := Aside0.mk c35
                          clear c35
                          obtain ⟨y127, hy127⟩ : ∃ y_ : List Int, y_ = (x10_2 ++ [wrap64 ((wrap64 (x23_2 + 1)) - x12_2)]) := ⟨_, rfl⟩
                          replace H : (blob_cut.l1 k2 l0 a1 a2 a3 x9_1 y127 (((31 * x11_2) + (rd l0 x23_2)) % 4294967296) (wrap64 (x23_2 + 1)) l0 (l0.length : Int) (wrap64 (x23_2 + 1))) = some r := by first | (rw [hy127]; with_reducible exact H) | (have H2_ := (Option.bind_some _ _).symm.trans H; rw [hy127]; with_reducible exact H2_) | (have H2_ := (Option.bind_some _ _).symm.trans H; with_reducible exact H2_) | with_reducible exact H | (rw [hy127]; exact H) | exact H
                          have Ny127 := Aside0.mk hy127
                          clear hy127
                          have H' := Aside0.mk H
                          clear H
                          have p110 : 0 ≤ (x23_2 : Int) := of_decide_eq_true (by first | (with_reducible assumption) | assumption)
                          have q110 : x23_2 < (l0.length : Int) := of_decide_eq_true (by first | (with_reducible assumption) | assumption)
                          obtain ⟨ad110, e110, hx110_0⟩ := Kd.at_int HR0.out x23_2 p110 q110
                          cases e110
                          replace hx110_0 := (HB.out.cell (World.block_lt_of_cell? w _ hx110_0)).trans hx110_0
                          replace p110 := eq_true p110
                          replace q110 := eq_true q110
                          go_wp2_with (first | ((with_reducible refine gate_builtin (b := .append) (xs := #[.tmp 65, .tmp 67]) rfl ?_); at_builtin; refine Kd.R_append (Kd.int .i64) (w0 := w) w.heap.size rfl (.tmp 65) (.tmp 67) 28 3 (.int .i64 0) 8 rfl Try.underlying28 info3 rfl (by decide) (by omega) u10 x10_2 (wrap64 ((wrap64 (x23_2 + 1)) - x12_2)) [.int .i64 (wrap64 ((wrap64 (x23_2 + 1)) - x12_2))] (fun _ => True) (fun _ => False) rfl rfl ?aP (fun _ hk => hk.elim) ?aF ?aO ?aB ?aS ?aL ?_; (case aP => exact rfl); (case aB => exact (by repeat (first | (with_reducible first | exact HB.out | apply below_alloc | apply pw_below_drewN | apply below_drew1) | exact HB.out))); (case aF => exact (fun _ _ => trivial)); (case aO => exact (by (with_reducible repeat (first | apply Kd.R_alloc | apply Kd.R_drewN | apply Kd.R_drew)); exact HO_10.out)); (case aS => exact (below_size (by repeat (first | (with_reducible first | exact HB.out | apply below_alloc | apply pw_below_drewN | apply below_drew1) | exact HB.out)))); (case aL => have := LMc35.out; omega); intro v128 w36 ho hb hg hat; rw [← Ny127.out] at ho; have n0_ := Aside0.mk (hb); have n1_ := Aside0.mk (ho); clear HB; clear HO_10; have HB := n0_; have HO129 := n1_; clear n0_ n1_; clear ho hb hg hat))
                          go_roundg k2
                          case measure => have := HK1.out; have := HK2.out; omega
                          case rel => exact ⟨(y127), (((31 * x11_2) + (rd l0 x23_2)) % 4294967296), (wrap64 (x23_2 + 1)), (wrap64 (x23_2 + 1)), (by first | rfl | (simp; done) | (simp [*]; done)), (by first | rfl | (simp; done) | (simp [*]; done)), (by first | rfl | (simp; done) | (simp [*]; done)), H', ⟨by have := HK1.out; have := HK2.out; omega⟩, ⟨by (with_reducible repeat (first | apply Kd.R_alloc | apply Kd.R_drewN | apply Kd.R_drew)); exact HO129.out⟩, ⟨by repeat (first | (with_reducible first | exact HB.out | apply below_alloc | apply pw_below_drewN | apply below_drew1) | exact HB.out)⟩⟩
                        · rw [if_neg c35] at H
                          exact absurd H (by simp)
                      · rw [if_neg c34] at H
                        have c34b0 : decide (a3 ≤ (wrap64 ((wrap64 (x23_2 + 1)) - x12_2))) = false := decide_eq_false c34
                        clear c34
                        have H' := Aside0.mk H
                        clear H
                        have p110 : 0 ≤ (x23_2 : Int) := of_decide_eq_true (by first | (with_reducible assumption) | assumption)
                        have q110 : x23_2 < (l0.length : Int) := of_decide_eq_true (by first | (with_reducible assumption) | assumption)
                        obtain ⟨ad110, e110, hx110_0⟩ := Kd.at_int HR0.out x23_2 p110 q110
                        cases e110
                        replace hx110_0 := (HB.out.cell (World.block_lt_of_cell? w _ hx110_0)).trans hx110_0
                        replace p110 := eq_true p110
                        replace q110 := eq_true q110
                        go_wp2
                        go_roundg k2
                        case measure => have := HK1.out; have := HK2.out; omega
                        case rel => exact ⟨(x10_2), (((31 * x11_2) + (rd l0 x23_2)) % 4294967296), (x12_2), (wrap64 (x23_2 + 1)), (by first | rfl | (simp; done) | (simp [*]; done)), (by first | rfl | (simp; done) | (simp [*]; done)), (by first | rfl | (simp; done) | (simp [*]; done)), H', ⟨by have := HK1.out; have := HK2.out; omega⟩, ⟨by (with_reducible repeat (first | apply Kd.R_alloc | apply Kd.R_drewN | apply Kd.R_drew)); exact HO_10.out⟩, ⟨by repeat (first | (with_reducible first | exact HB.out | apply below_alloc | apply pw_below_drewN | apply below_drew1) | exact HB.out)⟩⟩
                · rw [if_neg c8] at H
                  exact absurd H (by simp)
              · rw [if_neg c7] at H
                exact absurd H (by simp)
            · rw [if_neg c6] at H
              have c6b0 : decide (x23_2 < (l0.length : Int)) = false := decide_eq_false c6
              clear c6
              by_cases c37 : x12_2 < (l0.length : Int)
              · rw [if_pos c37] at H
                have c37b0 : decide (x12_2 < (l0.length : Int)) = true := decide_eq_true c37
                clear c37
                by_cases c38 : x10_2.length < 17592186044416
                · rw [if_pos c38] at H
                  have LMc38 := Aside0.mk c38
                  clear c38
                  obtain ⟨y107, hy107⟩ : ∃ y_ : List Int, y_ = (x10_2 ++ [wrap64 ((l0.length : Int) - x12_2)]) := ⟨_, rfl⟩
                  replace H : (some y107) = some r := by first | (rw [hy107]; with_reducible exact H) | (have H2_ := (Option.bind_some _ _).symm.trans H; rw [hy107]; with_reducible exact H2_) | (have H2_ := (Option.bind_some _ _).symm.trans H; with_reducible exact H2_) | with_reducible exact H | (rw [hy107]; exact H) | exact H
                  have Ny107 := Aside0.mk hy107
                  clear hy107
                  obtain rfl := Option.some.inj H
                  go_wp2_with (first | ((with_reducible refine gate_builtin (b := .append) (xs := #[.tmp 76, .tmp 81]) rfl ?_); at_builtin; refine Kd.R_append (Kd.int .i64) (w0 := w) w.heap.size rfl (.tmp 76) (.tmp 81) 28 3 (.int .i64 0) 8 rfl Try.underlying28 info3 rfl (by decide) (by omega) u10 x10_2 (wrap64 ((l0.length : Int) - x12_2)) [.int .i64 (wrap64 ((l0.length : Int) - x12_2))] (fun _ => True) (fun _ => False) rfl rfl ?aP (fun _ hk => hk.elim) ?aF ?aO ?aB ?aS ?aL ?_; (case aP => exact rfl); (case aB => exact (by repeat (first | (with_reducible first | exact HB.out | apply below_alloc | apply pw_below_drewN | apply below_drew1) | exact HB.out))); (case aF => exact (fun _ _ => trivial)); (case aO => exact (by (with_reducible repeat (first | apply Kd.R_alloc | apply Kd.R_drewN | apply Kd.R_drew)); exact HO_10.out)); (case aS => exact (below_size (by repeat (first | (with_reducible first | exact HB.out | apply below_alloc | apply pw_below_drewN | apply below_drew1) | exact HB.out)))); (case aL => have := LMc38.out; omega); intro v108 w39 ho hb hg hat; rw [← Ny107.out] at ho; have n0_ := Aside0.mk (hb); have n1_ := Aside0.mk (ho); clear HB; clear HO_10; have HB := n0_; have HO109 := n1_; clear n0_ n1_; clear ho hb hg hat))
                  go_ret
                  exact ⟨_, by first | rfl | (simp [errW_none, errW_some] <;> rfl) | (simp [*, errW_none, errW_some] <;> rfl), by (with_reducible repeat (first | apply Kd.R_alloc | apply Kd.R_drewN | apply Kd.R_drew)); exact HO109.out, by repeat (first | (with_reducible first | exact HB.out | apply below_alloc | apply pw_below_drewN | apply below_drew1) | exact HB.out)⟩
                · rw [if_neg c38] at H
                  exact absurd H (by simp)
              · rw [if_neg c37] at H
                have c37b0 : decide (x12_2 < (l0.length : Int)) = false := decide_eq_false c37
                clear c37
                obtain rfl := Option.some.inj H
                go_wp2
                go_ret
                exact ⟨_, by first | rfl | (simp [errW_none, errW_some] <;> rfl) | (simp [*, errW_none, errW_some] <;> rfl), by (with_reducible repeat (first | apply Kd.R_alloc | apply Kd.R_drewN | apply Kd.R_drew)); exact HO_10.out, by repeat (first | (with_reducible first | exact HB.out | apply below_alloc | apply pw_below_drewN | apply below_drew1) | exact HB.out)⟩

end Go.Proofs.Ytjdfbpjbobmgdaa.QSharedAll
