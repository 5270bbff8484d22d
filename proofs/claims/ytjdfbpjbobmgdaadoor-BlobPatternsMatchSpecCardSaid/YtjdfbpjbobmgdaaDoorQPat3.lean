-- Written by this session's program (wip/tools/pp.py) out of the translation; Lean checks it.
import Derived.Test.YtjdfbpjbobmgdaaDoorQPat0
namespace Go.Proofs.YtjdfbpjbobmgdaaDoor.QPat
open Go.RowKit Go.Proofs.YtjdfbpjbobmgdaaDoorW.PrintWords Go.Proofs.YtjdfbpjbobmgdaaDoorW.PrintLast Go.Proofs.YtjdfbpjbobmgdaaDoorW.PrintMore
attribute [local go_sem] max2_int min2_int max_two min_two max_three min_three max_four min_four   -- for this text's walks alone
attribute [local go_sem] Go.Proofs.YtjdfbpjbobmgdaaDoor.StrOps.str_gtr Go.Proofs.YtjdfbpjbobmgdaaDoor.StrOps.str_leq Go.Proofs.YtjdfbpjbobmgdaaDoor.StrOps.str_geq
set_option linter.unusedVariables false
set_option linter.unusedSimpArgs false

/-! ### blob_pathFits_1: function 37 -/
def blob_pathFits_1.f (a0 : ByteArray) : Option (Bool) := some (a0.toList == ([42, 42] : List UInt8))
set_option maxHeartbeats 8000000 in
set_option maxRecDepth 100000 in
theorem blob_pathFits_1.calls (a0 : ByteArray) (r : Bool) (w : World) (h : blob_pathFits_1.f a0 = some r) :
    Calls Tryd.prog 37 #[.string a0] w fun e w' => e = .returned (.bool r) ∧ Drawn0 w w' := by
  have H : (some (a0.toList == ([42, 42] : List UInt8))) = some r := h
  clear h
  obtain rfl := Option.some.inj H
  go_enter Tryd.func37, Tryd.ntmps37
  go_wp2
  go_ret
  exact ⟨by first | rfl | (simp; done) | (simp [*]; done), by repeat (first | exact Drawn0.refl _ | apply Drawn0.step)⟩

/-! ### blob_partFits_1: function 51 -/
def blob_partFits_1.f (a0 : Int) : Option (Bool) := some (a0 == 42)
set_option maxHeartbeats 8000000 in
set_option maxRecDepth 100000 in
theorem blob_partFits_1.calls (a0 : Int) (r : Bool) (w : World) (h : blob_partFits_1.f a0 = some r) :
    Calls Tryd.prog 51 #[.int .u8 a0] w fun e w' => e = .returned (.bool r) ∧ Drawn0 w w' := by
  have H : (some (a0 == 42)) = some r := h
  clear h
  obtain rfl := Option.some.inj H
  go_enter Tryd.func51, Tryd.ntmps51
  go_wp2
  go_ret
  exact ⟨by first | rfl | (simp; done) | (simp [*]; done), by repeat (first | exact Drawn0.refl _ | apply Drawn0.step)⟩

/-! ### blob_partFits_2: function 52 -/
def blob_partFits_2.f (a0 : Int) (a1 : Int) : Option (Bool) := if a0 = 63 then (some true) else (some (a0 == a1))
set_option maxHeartbeats 8000000 in
set_option maxRecDepth 100000 in
theorem blob_partFits_2.calls (a0 : Int) (a1 : Int) (r : Bool) (w : World) (h : blob_partFits_2.f a0 a1 = some r) :
    Calls Tryd.prog 52 #[.int .u8 a0, .int .u8 a1] w fun e w' => e = .returned (.bool r) ∧ Drawn0 w w' := by
  have H : (if a0 = 63 then (some true) else (some (a0 == a1))) = some r := h
  clear h
  by_cases c3 : a0 = 63
  · rw [if_pos c3] at H
    have c3b0 : (a0 == 63) = true := beq_iff_eq.mpr c3
    have c3b1 : (a0 != 63) = false := bne_eq_false_iff_eq.mpr c3
    clear c3
    obtain rfl := Option.some.inj H
    go_enter Tryd.func52, Tryd.ntmps52
    go_wp2
    go_ret
    exact ⟨by first | rfl | (simp; done) | (simp [*]; done), by repeat (first | exact Drawn0.refl _ | apply Drawn0.step)⟩
  · rw [if_neg c3] at H
    have c3b0 : (a0 == 63) = false := beq_eq_false_iff_ne.mpr c3
    have c3b1 : (a0 != 63) = true := bne_iff_ne.mpr c3
    obtain rfl := Option.some.inj H
    go_enter Tryd.func52, Tryd.ntmps52
    go_wp2
    go_ret
    exact ⟨by first | rfl | (simp; done) | (simp [*]; done), by repeat (first | exact Drawn0.refl _ | apply Drawn0.step)⟩

/-! ### blob_fits_byte_51_52: function 50 -/
mutual
def blob_fits_byte_51_52.l0 : Nat → List Int → List Bool → List Int → Int → Int → Option (Bool)
  | 0, _, _, _, _, _ => none
  | k + 1, x1, x9, x21, x22, x23 => if x23 < x22 then (if 0 ≤ x23 then (if x23 < (x21.length : Int) then (if 0 ≤ (x9.length : Int) then (if ((x9.length : Int) : Int).toNat ≤ 281474976710656 then (blob_fits_byte_51_52.l1 k x1 x9 (rd x21 x23) (List.replicate ((x9.length : Int) : Int).toNat false) false x21 x22 x23 (x9.length : Int) 0) else (none)) else (none)) else (none)) else (none)) else (if 0 ≤ (x1.length : Int) then (if (x1.length : Int) < (x9.length : Int) then (some (rdOf false x9 (x1.length : Int))) else (none)) else (none))
def blob_fits_byte_51_52.l1 : Nat → List Int → List Bool → Int → List Bool → Bool → List Int → Int → Int → Int → Int → Option (Bool)
  | 0, _, _, _, _, _, _, _, _, _, _ => none
  | k + 1, x1, x9, x11, x12, x13, x21, x22, x23, x31, x32 => if x32 < x31 then ((blob_partFits_1.f x11).bind fun t132 => (if t132 = true then (if x13 = true then (if 0 ≤ x32 then (if x32 < (x12.length : Int) then (blob_fits_byte_51_52.l1 k x1 x9 x11 (x12.set (x32 : Int).toNat true) true x21 x22 x23 x31 (wrap64 (x32 + 1))) else (none)) else (none)) else (if 0 ≤ x32 then (if x32 < (x9.length : Int) then (if x32 < (x12.length : Int) then (blob_fits_byte_51_52.l1 k x1 x9 x11 (x12.set (x32 : Int).toNat (rdOf false x9 x32)) (rdOf false x9 x32) x21 x22 x23 x31 (wrap64 (x32 + 1))) else (none)) else (none)) else (none))) else (if x32 > 0 then (if 0 ≤ (wrap64 (x32 - 1)) then (if (wrap64 (x32 - 1)) < (x9.length : Int) then (if rdOf false x9 (wrap64 (x32 - 1)) = true then (if (wrap64 (x32 - 1)) < (x1.length : Int) then ((blob_partFits_2.f x11 (rd x1 (wrap64 (x32 - 1)))).bind fun t138 => (if 0 ≤ x32 then (if x32 < (x12.length : Int) then (blob_fits_byte_51_52.l1 k x1 x9 x11 (x12.set (x32 : Int).toNat t138) x13 x21 x22 x23 x31 (wrap64 (x32 + 1))) else (none)) else (none))) else (none)) else (if 0 ≤ x32 then (if x32 < (x12.length : Int) then (blob_fits_byte_51_52.l1 k x1 x9 x11 (x12.set (x32 : Int).toNat false) x13 x21 x22 x23 x31 (wrap64 (x32 + 1))) else (none)) else (none))) else (none)) else (none)) else (blob_fits_byte_51_52.l1 k x1 x9 x11 x12 x13 x21 x22 x23 x31 (wrap64 (x32 + 1)))))) else (blob_fits_byte_51_52.l0 k x1 x12 x21 x22 (wrap64 (x23 + 1)))
end
def blob_fits_byte_51_52.f (k : Nat) (l0 : List Int) (l1 : List Int)   : Option (Bool) := if 0 ≤ (wrap64 ((l1.length : Int) + 1)) then (if (wrap64 ((l1.length : Int) + 1) : Int).toNat ≤ 281474976710656 then ((some (List.replicate (wrap64 ((l1.length : Int) + 1) : Int).toNat false : List Bool)).bind fun y123 => (if 0 < (y123.length : Int) then (blob_fits_byte_51_52.l0 k l1 (y123.set (0 : Int).toNat true) l0 (l0.length : Int) 0) else (none))) else (none)) else (none)
theorem blob_fits_byte_51_52.mono_l : ∀ k, (∀ y0 y1 y2 y3 y4, LeO (blob_fits_byte_51_52.l0 k y0 y1 y2 y3 y4) (blob_fits_byte_51_52.l0 (k + 1) y0 y1 y2 y3 y4)) ∧ (∀ y0 y1 y2 y3 y4 y5 y6 y7 y8 y9, LeO (blob_fits_byte_51_52.l1 k y0 y1 y2 y3 y4 y5 y6 y7 y8 y9) (blob_fits_byte_51_52.l1 (k + 1) y0 y1 y2 y3 y4 y5 y6 y7 y8 y9))
  | 0 => ⟨fun _ _ _ _ _ r h => by simp [blob_fits_byte_51_52.l0] at h, fun _ _ _ _ _ _ _ _ _ _ r h => by simp [blob_fits_byte_51_52.l1] at h⟩
  | k + 1 => by
    obtain ⟨ih0, ih1⟩ := blob_fits_byte_51_52.mono_l k
    refine ⟨?_, ?_⟩
    · intro y0 y1 y2 y3 y4
      unfold blob_fits_byte_51_52.l0
      repeat' first
      | (with_reducible exact ih0 _ _ _ _ _)
      | (with_reducible exact ih1 _ _ _ _ _ _ _ _ _ _)
      | (with_reducible exact LeO.refl _)
      | (with_reducible exact LeO.none _)
      | (with_reducible refine LeO.ite ?_ ?_)
      | (with_reducible refine LeO.bind ?_ (fun _ => ?_))
      | exact ih0 _ _ _ _ _
      | exact ih1 _ _ _ _ _ _ _ _ _ _
      | exact LeO.none _
      | refine LeO.ite ?_ ?_
      | refine LeO.bind ?_ (fun _ => ?_)
    · intro y0 y1 y2 y3 y4 y5 y6 y7 y8 y9
      unfold blob_fits_byte_51_52.l1
      repeat' first
      | (with_reducible exact ih0 _ _ _ _ _)
      | (with_reducible exact ih1 _ _ _ _ _ _ _ _ _ _)
      | (with_reducible exact LeO.refl _)
      | (with_reducible exact LeO.none _)
      | (with_reducible refine LeO.ite ?_ ?_)
      | (with_reducible refine LeO.bind ?_ (fun _ => ?_))
      | exact ih0 _ _ _ _ _
      | exact ih1 _ _ _ _ _ _ _ _ _ _
      | exact LeO.none _
      | refine LeO.ite ?_ ?_
      | refine LeO.bind ?_ (fun _ => ?_)
theorem blob_fits_byte_51_52.mono : ∀ a0 a1 k, LeO (blob_fits_byte_51_52.f k a0 a1) (blob_fits_byte_51_52.f (k + 1) a0 a1) := by
  intro a0 a1 k
  obtain ⟨ih0, ih1⟩ := blob_fits_byte_51_52.mono_l k
  unfold blob_fits_byte_51_52.f
  repeat' first
      | (with_reducible exact ih0 _ _ _ _ _)
      | (with_reducible exact ih1 _ _ _ _ _ _ _ _ _ _)
      | (with_reducible exact LeO.refl _)
      | (with_reducible exact LeO.none _)
      | (with_reducible refine LeO.ite ?_ ?_)
      | (with_reducible refine LeO.bind ?_ (fun _ => ?_))
      | exact ih0 _ _ _ _ _
      | exact ih1 _ _ _ _ _ _ _ _ _ _
      | exact LeO.none _
      | refine LeO.ite ?_ ?_
      | refine LeO.bind ?_ (fun _ => ?_)
set_option maxHeartbeats 8000000 in
set_option maxRecDepth 100000 in
theorem blob_fits_byte_51_52.calls (k : Nat) (A0 : Option Addr) (c0 : Nat) (l0 : List Int) (A1 : Option Addr) (c1 : Nat) (l1 : List Int)   (r : Bool) (w : World) (hr0 : Kd.C (Kd.int .u8) w A0 l0.length l0) (hc0 : l0.length ≤ c0) (hr1 : Kd.C (Kd.int .u8) w A1 l1.length l1) (hc1 : l1.length ≤ c1) (h : blob_fits_byte_51_52.f k l0 l1 = some r) :
    Calls Tryd.prog 50 #[.slice A0 l0.length c0, .slice A1 l1.length c1, .func (.func 51) #[] #[], .func (.func 52) #[] #[]] w fun e w' => e = .returned (.bool r) ∧ Below w.heap.size w w' := by
  have HR0 := Aside0.mk hr0
  have HC0 := Aside0.mk hc0
  clear hr0 hc0
  have HR1 := Aside0.mk hr1
  have HC1 := Aside0.mk hc1
  clear hr1 hc1
  have HB := Aside0.mk (Below.refl w.heap.size w)
  have H : (if 0 ≤ (wrap64 ((l1.length : Int) + 1)) then (if (wrap64 ((l1.length : Int) + 1) : Int).toNat ≤ 281474976710656 then ((some (List.replicate (wrap64 ((l1.length : Int) + 1) : Int).toNat false : List Bool)).bind fun y123 => (if 0 < (y123.length : Int) then (blob_fits_byte_51_52.l0 k l1 (y123.set (0 : Int).toNat true) l0 (l0.length : Int) 0) else (none))) else (none)) else (none)) = some r := h
  clear h
  obtain ⟨ji5, hji5⟩ : ∃ j_ : Int, (wrap64 ((l1.length : Int) + 1)) = j_ := ⟨_, rfl⟩
  replace H : (if 0 ≤ (ji5) then (if (ji5 : Int).toNat ≤ 281474976710656 then ((some (List.replicate (ji5 : Int).toNat false : List Bool)).bind fun y123 => (if 0 < (y123.length : Int) then (blob_fits_byte_51_52.l0 k l1 (y123.set (0 : Int).toNat true) l0 (l0.length : Int) 0) else (none))) else (none)) else (none)) = some r := by first | (rw [hji5] at H; exact H) | (simp only [hji5] at H ⊢; exact H)
  have hji5w : (IntKind.i64.wrap ((l1.length : Int) + 1)) = ji5 := (i64_w _).trans hji5
  by_cases c6 : 0 ≤ (ji5)
  · rw [if_pos c6] at H
    have c6b0 := eq_true c6
    have c6b1 : decide (0 ≤ (ji5)) = true := decide_eq_true c6
    clear c6
    by_cases c7 : (ji5 : Int).toNat ≤ 281474976710656
    · rw [if_pos c7] at H
      have c7b0 := eq_true c7
      have c7b1 : decide ((ji5 : Int).toNat ≤ 281474976710656) = true := decide_eq_true c7
      clear c7
      obtain ⟨y123, hy123⟩ : ∃ y_ : List Bool, y_ = (List.replicate (ji5 : Int).toNat false) := ⟨_, rfl⟩
      replace H : (if 0 < (y123.length : Int) then (blob_fits_byte_51_52.l0 k l1 (y123.set (0 : Int).toNat true) l0 (l0.length : Int) 0) else (none)) = some r := by first | (rw [hy123]; with_reducible exact H) | (have H2_ := (Option.bind_some _ _).symm.trans H; rw [hy123]; with_reducible exact H2_) | (have H2_ := (Option.bind_some _ _).symm.trans H; with_reducible exact H2_) | with_reducible exact H | (rw [hy123]; exact H) | exact H
      have Ny123 := Aside0.mk hy123
      clear hy123
      by_cases c8 : 0 < (y123.length : Int)
      · rw [if_pos c8] at H
        have c8b0 : decide (0 < (y123.length : Int)) = true := decide_eq_true c8
        have c8b1 : decide (0 < y123.length) = true := decide_eq_true (by omega)
        clear c8
        obtain ⟨y126, hy126⟩ : ∃ y_ : List Bool, y_ = (y123.set (0 : Int).toNat true) := ⟨_, rfl⟩
        replace H : (blob_fits_byte_51_52.l0 k l1 y126 l0 (l0.length : Int) 0) = some r := by first | (rw [hy126]; with_reducible exact H) | (have H2_ := (Option.bind_some _ _).symm.trans H; rw [hy126]; with_reducible exact H2_) | (have H2_ := (Option.bind_some _ _).symm.trans H; with_reducible exact H2_) | with_reducible exact H | (rw [hy126]; exact H) | exact H
        have Ny126 := Aside0.mk hy126
        clear hy126
        have H' := Aside0.mk H
        clear H
        go_enter Tryd.func50, Tryd.ntmps50
        go_wp2_with (first | ((with_reducible refine gate_dst (N := 18) rfl ?_); refine Kd.R_make Kd.bool _ 4 rfl (N := 18) rfl 53 _ _ rfl ji5 rfl rfl Tryd.underlying53 (.bool false) 1 info4 rfl (by decide) (by omega) false (ok := fun _ => True) (okp := fun _ => True) rfl (fun _ hk => hk) trivial (of_decide_eq_true (by first | (with_reducible assumption) | assumption)) (Nat.le_trans (Nat.mul_le_mul_right _ (of_decide_eq_true (by first | (with_reducible assumption) | assumption) : ji5.toNat ≤ 281474976710656)) (by omega)) (Below.refl _ _) (Nat.le_refl _) ?_; intro v124 w10 ho11 hb hg_ hnew_; clear hg_ hnew_; (first | rw [← Ny123.out] at ho11 | (simp only [Int.reduceToNat] at ho11; rw [← Ny123.out] at ho11)); have n0_ := Aside0.mk (Kd.R_lower ho11 (below_size (by repeat (first | (with_reducible first | exact HB.out | apply below_alloc | apply pw_below_drewN | apply below_drew1) | exact HB.out)))); have n1_ := Aside0.mk (below_step (by repeat (first | (with_reducible first | exact HB.out | apply below_alloc | apply pw_below_drewN | apply below_drew1) | exact HB.out)) hb); clear HB; have HO125 := n0_; have HB := n1_; clear n0_ n1_; clear hb ho11; have p9 : 0 ≤ (0 : Int) := (by omega); have q9 : (0 : Int) < ((y123.length : Int) : Int) := of_decide_eq_true (by first | (with_reducible assumption) | assumption); have qi9 : (0 < y123.length) = True := eq_true (by omega); obtain ⟨go9, co9, eo9, gb9, gl9, cl9, HG9⟩ := Kd.R_form HO125.out (by omega); (first | cases eo9 | (injection eo9 with ea_ en_ ec_; (first | subst ea_ | (injection ea_ with ea_; subst ea_)); subst ec_; clear en_)); have GB9 := Aside0.mk gb9; have GG9 := Aside0.mk HG9; clear gb9 gl9 HG9; obtain ⟨hx9_0, hf9_0⟩ := Kd.R_celln false HO125.out (0 : Int) p9 q9; (try rw [show ((0 : Int)).toNat = 0 from rfl] at hx9_0); (try simp only [Nat.reduceMul, Nat.zero_mul, Nat.zero_add, Nat.reduceAdd] at hx9_0); (try rw [show ((0 : Int)).toNat = 0 from rfl] at hf9_0); (try simp only [Nat.reduceMul, Nat.zero_mul, Nat.zero_add, Nat.reduceAdd] at hf9_0); replace p9 := eq_true p9; replace q9 := eq_true q9; obtain ⟨hy12_, hz12_⟩ := Kd.R_celln false HO125.out (0 : Int) (by omega) (of_decide_eq_true (by first | (with_reducible assumption) | assumption)); (try simp only [Int.reduceToNat, Int.toNat_zero, Int.toNat_ofNat, Nat.reduceMul, Nat.zero_mul, Nat.zero_add] at hy12_ hz12_); (try rw [show ((0 : Int)).toNat = 0 from rfl] at hy12_); (try rw [show ((0 : Int)).toNat = 0 from rfl] at hz12_); have HP12 := Kd.R_putg HO125.out (0 : Int) true) | ((with_reducible refine gate_store (t := 4) (p := 20) rfl ?_); refine store_event (t := 4) (p := 20) (v := ?vo_w13) (w1 := (w10.setCell ⟨go9, (0 : Int).toNat, none⟩ (.bool true))) ?hg ?ho ?hn ?hr ?_; (case ho => rfl); (case hg => rfl); (case hn => rfl); (case hr => first | (go_simp; done) | (go_simp; rfl)); intro w13 hw; have hg : w10.grownBy w13 (some go9) := (by rw [hw]; exact HP12.2); have hp_ : Kd.R Kd.bool 4 w13 w.heap.size (fun _ => True) (.slice (some ⟨go9, 0, none⟩) y123.length co9) y126 := (by rw [hw, Ny126.out]; exact HP12.1); clear HP12; have n0_ := Aside0.mk (hp_); have n1_ := Aside0.mk ((by rw [hw]; exact below_set (HB.out) GB9.out : Below w.heap.size w w13)); clear HO125; clear HB; have HO125 := n0_; have HB := n1_; clear n0_ n1_; clear hg hw hp_))
        go_loopg [9, 23] k (fun kq v9 v23 w' => ∃ (x9_1 : List Bool) (x23_1 : Int), v23 = .int .i64 x23_1 ∧ Aside0 (blob_fits_byte_51_52.l0 kq l1 x9_1 l0 (l0.length : Int) x23_1 = some r) ∧ Aside0 (kq ≤ k) ∧ Aside0 (Kd.R Kd.bool 4 w' w.heap.size (fun _ => True) v9 x9_1) ∧ Aside0 (Below w.heap.size w w'))
        case atStart => exact ⟨(y126), (0), (by first | rfl | (simp; done) | (simp [*]; done)), H', ⟨Nat.le_refl _⟩, ⟨by (with_reducible repeat (first | apply Kd.R_alloc | apply Kd.R_drewN | apply Kd.R_drew)); exact HO125.out⟩, ⟨by repeat (first | (with_reducible first | exact HB.out | apply below_alloc | apply pw_below_drewN | apply below_drew1) | exact HB.out)⟩⟩
        case round =>
          clear H'
          try clear c1
          try clear p2
          try clear c6
          try clear c6b0
          try clear c6b1
          try clear p6
          try clear c7
          try clear c7b0
          try clear c7b1
          try clear c8
          try clear c8b0
          try clear c8b1
          try clear p9
          try clear q9
          try clear hx9
          try clear qi9
          try clear hf9
          try clear hx9_0
          try clear p9
          try clear q9
          obtain ⟨x9_1, x23_1, rfl, HA, HK1, HO_9, HB⟩ := hrel
          cases gk with
          | zero => exact absurd HA.out (by simp [blob_fits_byte_51_52.l0])
          | succ k1 =>
            have H := HA.out
            clear HA
            simp only [blob_fits_byte_51_52.l0] at H
            by_cases c14 : x23_1 < (l0.length : Int)
            · rw [if_pos c14] at H
              have c14b0 : decide (x23_1 < (l0.length : Int)) = true := decide_eq_true c14
              clear c14
              by_cases c15 : 0 ≤ x23_1
              · rw [if_pos c15] at H
                have c15b0 : decide (0 ≤ x23_1) = true := decide_eq_true c15
                clear c15
                by_cases c16 : x23_1 < (l0.length : Int)
                · rw [if_pos c16] at H
                  have c16b0 : decide (x23_1 < (l0.length : Int)) = true := decide_eq_true c16
                  clear c16
                  by_cases c17 : 0 ≤ (x9_1.length : Int)
                  · rw [if_pos c17] at H
                    have c17b0 := eq_true c17
                    have c17b1 : decide (0 ≤ (x9_1.length : Int)) = true := decide_eq_true c17
                    clear c17
                    by_cases c18 : ((x9_1.length : Int) : Int).toNat ≤ 281474976710656
                    · rw [if_pos c18] at H
                      have c18b0 := eq_true c18
                      have c18b1 : decide (((x9_1.length : Int) : Int).toNat ≤ 281474976710656) = true := decide_eq_true c18
                      clear c18
                      obtain ⟨y129, hy129⟩ : ∃ y_ : List Bool, y_ = (List.replicate ((x9_1.length : Int) : Int).toNat false) := ⟨_, rfl⟩
                      replace H : (blob_fits_byte_51_52.l1 k1 l1 x9_1 (rd l0 x23_1) y129 false l0 (l0.length : Int) x23_1 (x9_1.length : Int) 0) = some r := by first | (rw [hy129]; with_reducible exact H) | (have H2_ := (Option.bind_some _ _).symm.trans H; rw [hy129]; with_reducible exact H2_) | (have H2_ := (Option.bind_some _ _).symm.trans H; with_reducible exact H2_) | with_reducible exact H | (rw [hy129]; exact H) | exact H
                      have Ny129 := Aside0.mk hy129
                      clear hy129
                      have H' := Aside0.mk H
                      clear H
                      have p128 : 0 ≤ (x23_1 : Int) := of_decide_eq_true (by first | (with_reducible assumption) | assumption)
                      have q128 : x23_1 < (l0.length : Int) := of_decide_eq_true (by first | (with_reducible assumption) | assumption)
                      obtain ⟨ad128, e128, hx128_0⟩ := Kd.at_int HR0.out x23_1 p128 q128
                      cases e128
                      replace hx128_0 := (HB.out.cell (World.block_lt_of_cell? w _ hx128_0)).trans hx128_0
                      replace p128 := eq_true p128
                      replace q128 := eq_true q128
                      obtain ⟨Ao19, co19, eo19⟩ := Kd.R_slice HO_9.out
                      subst eo19
                      go_wp2_with (first | ((with_reducible refine gate_dst (N := 29) rfl ?_); refine Kd.R_make Kd.bool _ 4 rfl (N := 29) rfl 53 _ _ rfl (x9_1.length : Int) rfl rfl Tryd.underlying53 (.bool false) 1 info4 rfl (by decide) (by omega) false (ok := fun _ => True) (okp := fun _ => True) rfl (fun _ hk => hk) trivial (of_decide_eq_true (by first | (with_reducible assumption) | assumption)) (Nat.le_trans (Nat.mul_le_mul_right _ (of_decide_eq_true (by first | (with_reducible assumption) | assumption) : (x9_1.length : Int).toNat ≤ 281474976710656)) (by omega)) (Below.refl _ _) (Nat.le_refl _) ?_; intro v130 w20 ho21 hb hg_ hnew_; clear hg_ hnew_; (first | rw [← Ny129.out] at ho21 | (simp only [Int.reduceToNat] at ho21; rw [← Ny129.out] at ho21)); have n0_ := Aside0.mk (Kd.R_elder' (by (with_reducible repeat (first | apply Kd.R_alloc | apply Kd.R_drewN | apply Kd.R_drew)); exact HO_9.out) (Kd.R_base ho21) hb); have n1_ := Aside0.mk (Kd.R_lower (Kd.R_new' ho21 (Kd.R_lt (by (with_reducible repeat (first | apply Kd.R_alloc | apply Kd.R_drewN | apply Kd.R_drew)); exact HO_9.out))) (below_size (by repeat (first | (with_reducible first | exact HB.out | apply below_alloc | apply pw_below_drewN | apply below_drew1) | exact HB.out)))); have n2_ := Aside0.mk (below_step (by repeat (first | (with_reducible first | exact HB.out | apply below_alloc | apply pw_below_drewN | apply below_drew1) | exact HB.out)) hb); clear HO_9; clear HB; have HO_9 := n0_; have HO131 := n1_; have HB := n2_; clear n0_ n1_ n2_; clear hb ho21))
                      go_loopg [13, 32] k1 (fun kq v13 v32 w' => ∃ (x12_2 : List Bool) (x13_2 : Bool) (x32_2 : Int), v13 = .bool x13_2 ∧ v32 = .int .i64 x32_2 ∧ Aside0 (blob_fits_byte_51_52.l1 kq l1 x9_1 (rd l0 x23_1) x12_2 x13_2 l0 (l0.length : Int) x23_1 (x9_1.length : Int) x32_2 = some r) ∧ Aside0 (kq ≤ k1) ∧ Aside0 (Kd.R Kd.bool 4 w' w.heap.size (fun k_ => some k_ ≠ (v130 : Value).ownBlock) (.slice Ao19 x9_1.length co19) x9_1) ∧ Aside0 (Kd.R Kd.bool 4 w' w.heap.size (fun k_ => some k_ ≠ ((.slice Ao19 x9_1.length co19) : Value).ownBlock) v130 x12_2) ∧ Aside0 (Below w.heap.size w w'))
                      case atStart => exact ⟨(y129), (false), (0), (by first | rfl | (simp; done) | (simp [*]; done)), (by first | rfl | (simp; done) | (simp [*]; done)), H', ⟨Nat.le_refl _⟩, ⟨by (with_reducible repeat (first | apply Kd.R_alloc | apply Kd.R_drewN | apply Kd.R_drew)); exact Kd.R_mono HO_9.out (fun _ hk => hk.2)⟩, ⟨by (with_reducible repeat (first | apply Kd.R_alloc | apply Kd.R_drewN | apply Kd.R_drew)); exact Kd.R_mono HO131.out (fun _ hk => hk.2)⟩, ⟨by repeat (first | (with_reducible first | exact HB.out | apply below_alloc | apply pw_below_drewN | apply below_drew1) | exact HB.out)⟩⟩
                      case round =>
                        clear H'
                        try clear c1
                        try clear p1
                        try clear q1
                        try clear hx1
                        try clear p2
                        try clear c6
                        try clear c6b0
                        try clear c6b1
                        try clear p6
                        try clear c7
                        try clear c7b0
                        try clear c7b1
                        try clear c8
                        try clear c8b0
                        try clear c8b1
                        try clear p9
                        try clear q9
                        try clear hx9
                        try clear qi9
                        try clear hf9
                        try clear p12
                        try clear q12
                        try clear hx12
                        try clear c14
                        try clear c14b0
                        try clear c15
                        try clear c15b0
                        try clear c16
                        try clear c16b0
                        try clear c17
                        try clear c17b0
                        try clear c17b1
                        try clear c18
                        try clear c18b0
                        try clear c18b1
                        try clear hx128_0
                        try clear hx9_0
                        try clear p128
                        try clear p2
                        try clear p6
                        try clear p9
                        try clear q128
                        try clear q9
                        obtain ⟨x12_2, x13_2, x32_2, rfl, rfl, HA, HK2, HO_9, HO_12, HB⟩ := hrel
                        cases gk with
                        | zero => exact absurd HA.out (by simp [blob_fits_byte_51_52.l1])
                        | succ k2 =>
                          have H := HA.out
                          clear HA
                          simp only [blob_fits_byte_51_52.l1] at H
                          by_cases c22 : x32_2 < (x9_1.length : Int)
                          · rw [if_pos c22] at H
                            have c22b0 : decide (x32_2 < (x9_1.length : Int)) = true := decide_eq_true c22
                            clear c22
                            replace H := Option.bind_eq_some_iff.mp H
                            obtain ⟨t132, A230, H⟩ := H
                            replace H : (if t132 = true then (if x13_2 = true then (if 0 ≤ x32_2 then (if x32_2 < (x12_2.length : Int) then (blob_fits_byte_51_52.l1 k2 l1 x9_1 (rd l0 x23_1) (x12_2.set (x32_2 : Int).toNat true) true l0 (l0.length : Int) x23_1 (x9_1.length : Int) (wrap64 (x32_2 + 1))) else (none)) else (none)) else (if 0 ≤ x32_2 then (if x32_2 < (x9_1.length : Int) then (if x32_2 < (x12_2.length : Int) then (blob_fits_byte_51_52.l1 k2 l1 x9_1 (rd l0 x23_1) (x12_2.set (x32_2 : Int).toNat (rdOf false x9_1 x32_2)) (rdOf false x9_1 x32_2) l0 (l0.length : Int) x23_1 (x9_1.length : Int) (wrap64 (x32_2 + 1))) else (none)) else (none)) else (none))) else (if x32_2 > 0 then (if 0 ≤ (wrap64 (x32_2 - 1)) then (if (wrap64 (x32_2 - 1)) < (x9_1.length : Int) then (if rdOf false x9_1 (wrap64 (x32_2 - 1)) = true then (if (wrap64 (x32_2 - 1)) < (l1.length : Int) then ((blob_partFits_2.f (rd l0 x23_1) (rd l1 (wrap64 (x32_2 - 1)))).bind fun t138 => (if 0 ≤ x32_2 then (if x32_2 < (x12_2.length : Int) then (blob_fits_byte_51_52.l1 k2 l1 x9_1 (rd l0 x23_1) (x12_2.set (x32_2 : Int).toNat t138) x13_2 l0 (l0.length : Int) x23_1 (x9_1.length : Int) (wrap64 (x32_2 + 1))) else (none)) else (none))) else (none)) else (if 0 ≤ x32_2 then (if x32_2 < (x12_2.length : Int) then (blob_fits_byte_51_52.l1 k2 l1 x9_1 (rd l0 x23_1) (x12_2.set (x32_2 : Int).toNat false) x13_2 l0 (l0.length : Int) x23_1 (x9_1.length : Int) (wrap64 (x32_2 + 1))) else (none)) else (none))) else (none)) else (none)) else (blob_fits_byte_51_52.l1 k2 l1 x9_1 (rd l0 x23_1) x12_2 x13_2 l0 (l0.length : Int) x23_1 (x9_1.length : Int) (wrap64 (x32_2 + 1))))) = some r := H
                            have A23 := Aside0.mk A230
                            clear A230
                            by_cases c24 : t132 = true
                            · subst c24
                              have H1 : (if x13_2 = true then (if 0 ≤ x32_2 then (if x32_2 < (x12_2.length : Int) then (blob_fits_byte_51_52.l1 k2 l1 x9_1 (rd l0 x23_1) (x12_2.set (x32_2 : Int).toNat true) true l0 (l0.length : Int) x23_1 (x9_1.length : Int) (wrap64 (x32_2 + 1))) else (none)) else (none)) else (if 0 ≤ x32_2 then (if x32_2 < (x9_1.length : Int) then (if x32_2 < (x12_2.length : Int) then (blob_fits_byte_51_52.l1 k2 l1 x9_1 (rd l0 x23_1) (x12_2.set (x32_2 : Int).toNat (rdOf false x9_1 x32_2)) (rdOf false x9_1 x32_2) l0 (l0.length : Int) x23_1 (x9_1.length : Int) (wrap64 (x32_2 + 1))) else (none)) else (none)) else (none))) = some r := by rw [if_pos rfl] at H; exact H
                              clear H
                              have H := H1
                              clear H1
                              by_cases c25 : x13_2 = true
                              · subst c25
                                have H1 : (if 0 ≤ x32_2 then (if x32_2 < (x12_2.length : Int) then (blob_fits_byte_51_52.l1 k2 l1 x9_1 (rd l0 x23_1) (x12_2.set (x32_2 : Int).toNat true) true l0 (l0.length : Int) x23_1 (x9_1.length : Int) (wrap64 (x32_2 + 1))) else (none)) else (none)) = some r := by rw [if_pos rfl] at H; exact H
                                clear H
                                have H := H1
                                clear H1
                                by_cases c26 : 0 ≤ x32_2
                                · rw [if_pos c26] at H
                                  have c26b0 : decide (0 ≤ x32_2) = true := decide_eq_true c26
                                  clear c26
                                  by_cases c27 : x32_2 < (x12_2.length : Int)
                                  · rw [if_pos c27] at H
                                    have c27b0 : decide (x32_2 < (x12_2.length : Int)) = true := decide_eq_true c27
                                    clear c27
                                    obtain ⟨y133, hy133⟩ : ∃ y_ : List Bool, y_ = (x12_2.set (x32_2 : Int).toNat true) := ⟨_, rfl⟩
                                    replace H : (blob_fits_byte_51_52.l1 k2 l1 x9_1 (rd l0 x23_1) y133 true l0 (l0.length : Int) x23_1 (x9_1.length : Int) (wrap64 (x32_2 + 1))) = some r := by first | (rw [hy133]; with_reducible exact H) | (have H2_ := (Option.bind_some _ _).symm.trans H; rw [hy133]; with_reducible exact H2_) | (have H2_ := (Option.bind_some _ _).symm.trans H; with_reducible exact H2_) | with_reducible exact H | (rw [hy133]; exact H) | exact H
                                    have Ny133 := Aside0.mk hy133
                                    clear hy133
                                    have H' := Aside0.mk H
                                    clear H
                                    go_wp2_with (first | (go_at_call 51; (with_reducible refine (blob_partFits_1.calls (rd l0 x23_1) true _ A23.out).mono ?_); rintro e w' ⟨rfl, ⟨nd, rfl⟩⟩; (try (rw [drewN_self wr]; generalize hq_ : World.drewN wr _ = wr; have n0_ : Aside0 (Kd.R Kd.bool 4 wr w.heap.size (fun k_ => some k_ ≠ (.slice Ao19 x9_1.length co19 : Value).ownBlock) v130 x12_2) := ⟨by rw [← hq_]; exact (by (with_reducible repeat (first | apply Kd.R_alloc | apply Kd.R_drewN | apply Kd.R_drew)); exact HO_12.out)⟩; have n1_ : Aside0 (Kd.R Kd.bool 4 wr w.heap.size (fun k_ => some k_ ≠ (v130 : Value).ownBlock) (.slice Ao19 x9_1.length co19) x9_1) := ⟨by rw [← hq_]; exact (by (with_reducible repeat (first | apply Kd.R_alloc | apply Kd.R_drewN | apply Kd.R_drew)); exact HO_9.out)⟩; have n2_ : Aside0 (Below w.heap.size w wr) := ⟨by rw [← hq_]; exact (by repeat (first | (with_reducible first | exact HB.out | apply below_alloc | apply pw_below_drewN | apply below_drew1) | exact HB.out))⟩; clear HO_12 HO_9 HB hq_; have HO_12 := n0_; have HO_9 := n1_; have HB := n2_; clear n0_ n1_ n2_)); have p28 : 0 ≤ (x32_2 : Int) := of_decide_eq_true (by first | (with_reducible assumption) | assumption); have q28 : (x32_2 : Int) < ((x12_2.length : Int) : Int) := of_decide_eq_true (by first | (with_reducible assumption) | assumption); obtain ⟨go28, co28, eo28, gb28, gl28, cl28, HG28⟩ := Kd.R_form HO_12.out (by omega); (first | cases eo28 | (injection eo28 with ea_ en_ ec_; (first | subst ea_ | (injection ea_ with ea_; subst ea_)); subst ec_; clear en_)); have GB28 := Aside0.mk gb28; have GG28 := Aside0.mk HG28; clear gb28 gl28 HG28; obtain ⟨hx28_0, hf28_0⟩ := Kd.R_celln false HO_12.out (x32_2 : Int) p28 q28; replace p28 := eq_true p28; replace q28 := eq_true q28; obtain ⟨hy29_, hz29_⟩ := Kd.R_celln false HO_12.out (x32_2 : Int) (of_decide_eq_true (by first | (with_reducible assumption) | assumption)) (of_decide_eq_true (by first | (with_reducible assumption) | assumption)); have HP29 := Kd.R_putg HO_12.out (x32_2 : Int) true) | ((with_reducible refine gate_store (t := 4) (p := 48) rfl ?_); refine store_event (t := 4) (p := 48) (v := ?vo_w30) (w1 := (wr.setCell ⟨go28, (x32_2 : Int).toNat, none⟩ (.bool true))) ?hg ?ho ?hn ?hr ?_; (case ho => rfl); (case hg => rfl); (case hn => rfl); (case hr => first | (go_simp; done) | (go_simp; rfl)); intro w30 hw; have hg : wr.grownBy w30 (some go28) := (by rw [hw]; exact HP29.2); have hp_ : Kd.R Kd.bool 4 w30 w.heap.size (fun k_ => some k_ ≠ (.slice Ao19 x9_1.length co19 : Value).ownBlock) (.slice (some ⟨go28, 0, none⟩) x12_2.length co28) y133 := (by rw [hw, Ny133.out]; exact HP29.1); clear HP29; have n0_ := Aside0.mk (Kd.R_after (v := (.slice (some ⟨go28, 0, none⟩) x12_2.length co28)) (v1 := (.slice (some ⟨go28, 0, none⟩) x12_2.length co28)) (ok := (fun _ => True)) (by (with_reducible repeat (first | apply Kd.R_alloc | apply Kd.R_drewN | apply Kd.R_drew)); exact Kd.R_mono HO_9.out (fun _ hk => ⟨trivial, hk⟩)) hg (.inl rfl)); have n1_ := Aside0.mk (hp_); have n2_ := Aside0.mk ((by rw [hw]; exact below_set (HB.out) GB28.out : Below w.heap.size w w30)); clear HO_9; clear HO_12; clear HB; have HO_9 := n0_; have HO_12 := n1_; have HB := n2_; clear n0_ n1_ n2_; clear hg hw hp_))
                                    go_roundg k2
                                    case measure => have := HK1.out; have := HK2.out; omega
                                    case rel => exact ⟨(y133), (true), (wrap64 (x32_2 + 1)), (by first | rfl | (simp; done) | (simp [*]; done)), (by first | rfl | (simp; done) | (simp [*]; done)), H', ⟨by have := HK1.out; have := HK2.out; omega⟩, ⟨by (with_reducible repeat (first | apply Kd.R_alloc | apply Kd.R_drewN | apply Kd.R_drew)); exact Kd.R_mono HO_9.out (fun _ hk => hk.2)⟩, ⟨by (with_reducible repeat (first | apply Kd.R_alloc | apply Kd.R_drewN | apply Kd.R_drew)); exact HO_12.out⟩, ⟨by repeat (first | (with_reducible first | exact HB.out | apply below_alloc | apply pw_below_drewN | apply below_drew1) | exact HB.out)⟩⟩
                                  · rw [if_neg c27] at H
                                    exact absurd H (by simp)
                                · rw [if_neg c26] at H
                                  exact absurd H (by simp)
                              · replace c25 := Bool.eq_false_iff.mpr c25
                                subst c25
                                have H1 : (if 0 ≤ x32_2 then (if x32_2 < (x9_1.length : Int) then (if x32_2 < (x12_2.length : Int) then (blob_fits_byte_51_52.l1 k2 l1 x9_1 (rd l0 x23_1) (x12_2.set (x32_2 : Int).toNat (rdOf false x9_1 x32_2)) (rdOf false x9_1 x32_2) l0 (l0.length : Int) x23_1 (x9_1.length : Int) (wrap64 (x32_2 + 1))) else (none)) else (none)) else (none)) = some r := by rw [if_neg (show ¬ (false = true) by decide)] at H; exact H
                                clear H
                                have H := H1
                                clear H1
                                by_cases c31 : 0 ≤ x32_2
                                · rw [if_pos c31] at H
                                  have c31b0 : decide (0 ≤ x32_2) = true := decide_eq_true c31
                                  clear c31
                                  by_cases c32 : x32_2 < (x9_1.length : Int)
                                  · rw [if_pos c32] at H
                                    have c32b0 : decide (x32_2 < (x9_1.length : Int)) = true := decide_eq_true c32
                                    clear c32
                                    by_cases c33 : x32_2 < (x12_2.length : Int)
                                    · rw [if_pos c33] at H
                                      have c33b0 : decide (x32_2 < (x12_2.length : Int)) = true := decide_eq_true c33
                                      clear c33
                                      obtain ⟨y135, hy135⟩ : ∃ y_ : List Bool, y_ = (x12_2.set (x32_2 : Int).toNat (rdOf false x9_1 x32_2)) := ⟨_, rfl⟩
                                      replace H : (blob_fits_byte_51_52.l1 k2 l1 x9_1 (rd l0 x23_1) y135 (rdOf false x9_1 x32_2) l0 (l0.length : Int) x23_1 (x9_1.length : Int) (wrap64 (x32_2 + 1))) = some r := by first | (rw [hy135]; with_reducible exact H) | (have H2_ := (Option.bind_some _ _).symm.trans H; rw [hy135]; with_reducible exact H2_) | (have H2_ := (Option.bind_some _ _).symm.trans H; with_reducible exact H2_) | with_reducible exact H | (rw [hy135]; exact H) | exact H
                                      have Ny135 := Aside0.mk hy135
                                      clear hy135
                                      have H' := Aside0.mk H
                                      clear H
                                      go_wp2_with (first | (go_at_call 51; (with_reducible refine (blob_partFits_1.calls (rd l0 x23_1) true _ A23.out).mono ?_); rintro e w' ⟨rfl, ⟨nd, rfl⟩⟩; (try (rw [drewN_self wr]; generalize hq_ : World.drewN wr _ = wr; have n0_ : Aside0 (Kd.R Kd.bool 4 wr w.heap.size (fun k_ => some k_ ≠ (.slice Ao19 x9_1.length co19 : Value).ownBlock) v130 x12_2) := ⟨by rw [← hq_]; exact (by (with_reducible repeat (first | apply Kd.R_alloc | apply Kd.R_drewN | apply Kd.R_drew)); exact HO_12.out)⟩; have n1_ : Aside0 (Kd.R Kd.bool 4 wr w.heap.size (fun k_ => some k_ ≠ (v130 : Value).ownBlock) (.slice Ao19 x9_1.length co19) x9_1) := ⟨by rw [← hq_]; exact (by (with_reducible repeat (first | apply Kd.R_alloc | apply Kd.R_drewN | apply Kd.R_drew)); exact HO_9.out)⟩; have n2_ : Aside0 (Below w.heap.size w wr) := ⟨by rw [← hq_]; exact (by repeat (first | (with_reducible first | exact HB.out | apply below_alloc | apply pw_below_drewN | apply below_drew1) | exact HB.out))⟩; clear HO_12 HO_9 HB hq_; have HO_12 := n0_; have HO_9 := n1_; have HB := n2_; clear n0_ n1_ n2_)); have p134 : 0 ≤ (x32_2 : Int) := of_decide_eq_true (by first | (with_reducible assumption) | assumption); have q134 : x32_2 < (x9_1.length : Int) := of_decide_eq_true (by first | (with_reducible assumption) | assumption); obtain ⟨ad134, e134, hx134_0⟩ := Kd.at_bool (Kd.R_reads' HO_9.out).2.2 x32_2 p134 q134; cases e134; replace p134 := eq_true p134; replace q134 := eq_true q134; have p34 : 0 ≤ (x32_2 : Int) := of_decide_eq_true (by first | (with_reducible assumption) | assumption); have q34 : (x32_2 : Int) < ((x12_2.length : Int) : Int) := of_decide_eq_true (by first | (with_reducible assumption) | assumption); obtain ⟨go34, co34, eo34, gb34, gl34, cl34, HG34⟩ := Kd.R_form HO_12.out (by omega); (first | cases eo34 | (injection eo34 with ea_ en_ ec_; (first | subst ea_ | (injection ea_ with ea_; subst ea_)); subst ec_; clear en_)); have GB34 := Aside0.mk gb34; have GG34 := Aside0.mk HG34; clear gb34 gl34 HG34; obtain ⟨hx34_0, hf34_0⟩ := Kd.R_celln false HO_12.out (x32_2 : Int) p34 q34; replace p34 := eq_true p34; replace q34 := eq_true q34; obtain ⟨hy35_, hz35_⟩ := Kd.R_celln false HO_12.out (x32_2 : Int) (of_decide_eq_true (by first | (with_reducible assumption) | assumption)) (of_decide_eq_true (by first | (with_reducible assumption) | assumption)); have HP35 := Kd.R_putg HO_12.out (x32_2 : Int) (rdOf false x9_1 x32_2)) | ((with_reducible refine gate_store (t := 4) (p := 48) rfl ?_); refine store_event (t := 4) (p := 48) (v := ?vo_w36) (w1 := (wr.setCell ⟨go34, (x32_2 : Int).toNat, none⟩ (.bool (rdOf false x9_1 x32_2)))) ?hg ?ho ?hn ?hr ?_; (case ho => rfl); (case hg => rfl); (case hn => rfl); (case hr => first | (go_simp; done) | (go_simp; rfl)); intro w36 hw; have hg : wr.grownBy w36 (some go34) := (by rw [hw]; exact HP35.2); have hp_ : Kd.R Kd.bool 4 w36 w.heap.size (fun k_ => some k_ ≠ (.slice (some ad134) x9_1.length co19 : Value).ownBlock) (.slice (some ⟨go34, 0, none⟩) x12_2.length co34) y135 := (by rw [hw, Ny135.out]; exact HP35.1); clear HP35; have n0_ := Aside0.mk (Kd.R_after (v := (.slice (some ⟨go34, 0, none⟩) x12_2.length co34)) (v1 := (.slice (some ⟨go34, 0, none⟩) x12_2.length co34)) (ok := (fun _ => True)) (by (with_reducible repeat (first | apply Kd.R_alloc | apply Kd.R_drewN | apply Kd.R_drew)); exact Kd.R_mono HO_9.out (fun _ hk => ⟨trivial, hk⟩)) hg (.inl rfl)); have n1_ := Aside0.mk (hp_); have n2_ := Aside0.mk ((by rw [hw]; exact below_set (HB.out) GB34.out : Below w.heap.size w w36)); clear HO_9; clear HO_12; clear HB; have HO_9 := n0_; have HO_12 := n1_; have HB := n2_; clear n0_ n1_ n2_; clear hg hw hp_))
                                      go_roundg k2
                                      case measure => have := HK1.out; have := HK2.out; omega
                                      case rel => exact ⟨(y135), (rdOf false x9_1 x32_2), (wrap64 (x32_2 + 1)), (by first | rfl | (simp; done) | (simp [*]; done)), (by first | rfl | (simp; done) | (simp [*]; done)), H', ⟨by have := HK1.out; have := HK2.out; omega⟩, ⟨by (with_reducible repeat (first | apply Kd.R_alloc | apply Kd.R_drewN | apply Kd.R_drew)); exact Kd.R_mono HO_9.out (fun _ hk => hk.2)⟩, ⟨by (with_reducible repeat (first | apply Kd.R_alloc | apply Kd.R_drewN | apply Kd.R_drew)); exact HO_12.out⟩, ⟨by repeat (first | (with_reducible first | exact HB.out | apply below_alloc | apply pw_below_drewN | apply below_drew1) | exact HB.out)⟩⟩
                                    · rw [if_neg c33] at H
                                      exact absurd H (by simp)
                                  · rw [if_neg c32] at H
                                    exact absurd H (by simp)
                                · rw [if_neg c31] at H
                                  exact absurd H (by simp)
                            · replace c24 := Bool.eq_false_iff.mpr c24
                              subst c24
                              have H1 : (if x32_2 > 0 then (if 0 ≤ (wrap64 (x32_2 - 1)) then (if (wrap64 (x32_2 - 1)) < (x9_1.length : Int) then (if rdOf false x9_1 (wrap64 (x32_2 - 1)) = true then (if (wrap64 (x32_2 - 1)) < (l1.length : Int) then ((blob_partFits_2.f (rd l0 x23_1) (rd l1 (wrap64 (x32_2 - 1)))).bind fun t138 => (if 0 ≤ x32_2 then (if x32_2 < (x12_2.length : Int) then (blob_fits_byte_51_52.l1 k2 l1 x9_1 (rd l0 x23_1) (x12_2.set (x32_2 : Int).toNat t138) x13_2 l0 (l0.length : Int) x23_1 (x9_1.length : Int) (wrap64 (x32_2 + 1))) else (none)) else (none))) else (none)) else (if 0 ≤ x32_2 then (if x32_2 < (x12_2.length : Int) then (blob_fits_byte_51_52.l1 k2 l1 x9_1 (rd l0 x23_1) (x12_2.set (x32_2 : Int).toNat false) x13_2 l0 (l0.length : Int) x23_1 (x9_1.length : Int) (wrap64 (x32_2 + 1))) else (none)) else (none))) else (none)) else (none)) else (blob_fits_byte_51_52.l1 k2 l1 x9_1 (rd l0 x23_1) x12_2 x13_2 l0 (l0.length : Int) x23_1 (x9_1.length : Int) (wrap64 (x32_2 + 1)))) = some r := by rw [if_neg (show ¬ (false = true) by decide)] at H; exact H
                              clear H
                              have H := H1
                              clear H1
                              by_cases c37 : x32_2 > 0
                              · rw [if_pos c37] at H
                                have c37b0 : decide (0 < x32_2) = true := decide_eq_true c37
                                clear c37
                                obtain ⟨ji38, hji38⟩ : ∃ j_ : Int, (wrap64 (x32_2 - 1)) = j_ := ⟨_, rfl⟩
                                replace H : (if 0 ≤ (ji38) then (if (ji38) < (x9_1.length : Int) then (if rdOf false x9_1 (ji38) = true then (if (ji38) < (l1.length : Int) then ((blob_partFits_2.f (rd l0 x23_1) (rd l1 (ji38))).bind fun t138 => (if 0 ≤ x32_2 then (if x32_2 < (x12_2.length : Int) then (blob_fits_byte_51_52.l1 k2 l1 x9_1 (rd l0 x23_1) (x12_2.set (x32_2 : Int).toNat t138) x13_2 l0 (l0.length : Int) x23_1 (x9_1.length : Int) (wrap64 (x32_2 + 1))) else (none)) else (none))) else (none)) else (if 0 ≤ x32_2 then (if x32_2 < (x12_2.length : Int) then (blob_fits_byte_51_52.l1 k2 l1 x9_1 (rd l0 x23_1) (x12_2.set (x32_2 : Int).toNat false) x13_2 l0 (l0.length : Int) x23_1 (x9_1.length : Int) (wrap64 (x32_2 + 1))) else (none)) else (none))) else (none)) else (none)) = some r := by first | (rw [hji38] at H; exact H) | (simp only [hji38] at H ⊢; exact H)
                                (try rw [hji38] at A23)
                                have hji38w : (IntKind.i64.wrap (x32_2 - 1)) = ji38 := (i64_w _).trans hji38
                                by_cases c39 : 0 ≤ (ji38)
                                · rw [if_pos c39] at H
                                  have c39b0 : decide (0 ≤ (ji38)) = true := decide_eq_true c39
                                  clear c39
                                  by_cases c40 : (ji38) < (x9_1.length : Int)
                                  · rw [if_pos c40] at H
                                    have c40b0 : decide ((ji38) < (x9_1.length : Int)) = true := decide_eq_true c40
                                    clear c40
                                    obtain ⟨bq41, hbq41⟩ : ∃ b_ : Bool, b_ = (rdOf false x9_1 (ji38)) := ⟨_, rfl⟩
                                    replace H : (if bq41 = true then (if (ji38) < (l1.length : Int) then ((blob_partFits_2.f (rd l0 x23_1) (rd l1 (ji38))).bind fun t138 => (if 0 ≤ x32_2 then (if x32_2 < (x12_2.length : Int) then (blob_fits_byte_51_52.l1 k2 l1 x9_1 (rd l0 x23_1) (x12_2.set (x32_2 : Int).toNat t138) x13_2 l0 (l0.length : Int) x23_1 (x9_1.length : Int) (wrap64 (x32_2 + 1))) else (none)) else (none))) else (none)) else (if 0 ≤ x32_2 then (if x32_2 < (x12_2.length : Int) then (blob_fits_byte_51_52.l1 k2 l1 x9_1 (rd l0 x23_1) (x12_2.set (x32_2 : Int).toNat false) x13_2 l0 (l0.length : Int) x23_1 (x9_1.length : Int) (wrap64 (x32_2 + 1))) else (none)) else (none))) = some r := by rw [← hbq41] at H; exact H
                                    have Nbq41 := Aside0.mk hbq41
                                    clear hbq41
                                    by_cases c42 : bq41 = true
                                    · subst c42
                                      have H1 : (if (ji38) < (l1.length : Int) then ((blob_partFits_2.f (rd l0 x23_1) (rd l1 (ji38))).bind fun t138 => (if 0 ≤ x32_2 then (if x32_2 < (x12_2.length : Int) then (blob_fits_byte_51_52.l1 k2 l1 x9_1 (rd l0 x23_1) (x12_2.set (x32_2 : Int).toNat t138) x13_2 l0 (l0.length : Int) x23_1 (x9_1.length : Int) (wrap64 (x32_2 + 1))) else (none)) else (none))) else (none)) = some r := by rw [if_pos rfl] at H; exact H
                                      clear H
                                      have H := H1
                                      clear H1
                                      by_cases c43 : (ji38) < (l1.length : Int)
                                      · rw [if_pos c43] at H
                                        have c43b0 : decide ((ji38) < (l1.length : Int)) = true := decide_eq_true c43
                                        clear c43
                                        replace H := Option.bind_eq_some_iff.mp H
                                        obtain ⟨t138, A440, H⟩ := H
                                        replace H : (if 0 ≤ x32_2 then (if x32_2 < (x12_2.length : Int) then (blob_fits_byte_51_52.l1 k2 l1 x9_1 (rd l0 x23_1) (x12_2.set (x32_2 : Int).toNat t138) x13_2 l0 (l0.length : Int) x23_1 (x9_1.length : Int) (wrap64 (x32_2 + 1))) else (none)) else (none)) = some r := H
                                        have A44 := Aside0.mk A440
                                        clear A440
                                        by_cases c45 : 0 ≤ x32_2
                                        · rw [if_pos c45] at H
                                          have c45b0 : decide (0 ≤ x32_2) = true := decide_eq_true c45
                                          clear c45
                                          by_cases c46 : x32_2 < (x12_2.length : Int)
                                          · rw [if_pos c46] at H
                                            have c46b0 : decide (x32_2 < (x12_2.length : Int)) = true := decide_eq_true c46
                                            clear c46
                                            obtain ⟨y139, hy139⟩ : ∃ y_ : List Bool, y_ = (x12_2.set (x32_2 : Int).toNat t138) := ⟨_, rfl⟩
                                            replace H : (blob_fits_byte_51_52.l1 k2 l1 x9_1 (rd l0 x23_1) y139 x13_2 l0 (l0.length : Int) x23_1 (x9_1.length : Int) (wrap64 (x32_2 + 1))) = some r := by first | (rw [hy139]; with_reducible exact H) | (have H2_ := (Option.bind_some _ _).symm.trans H; rw [hy139]; with_reducible exact H2_) | (have H2_ := (Option.bind_some _ _).symm.trans H; with_reducible exact H2_) | with_reducible exact H | (rw [hy139]; exact H) | exact H
                                            have Ny139 := Aside0.mk hy139
                                            clear hy139
                                            have H' := Aside0.mk H
                                            clear H
                                            go_wp2_with (first | (go_at_call 51; (with_reducible refine (blob_partFits_1.calls (rd l0 x23_1) false _ A23.out).mono ?_); rintro e w' ⟨rfl, ⟨nd, rfl⟩⟩; (try (rw [drewN_self wr]; generalize hq_ : World.drewN wr _ = wr; have n0_ : Aside0 (Kd.R Kd.bool 4 wr w.heap.size (fun k_ => some k_ ≠ (.slice Ao19 x9_1.length co19 : Value).ownBlock) v130 x12_2) := ⟨by rw [← hq_]; exact (by (with_reducible repeat (first | apply Kd.R_alloc | apply Kd.R_drewN | apply Kd.R_drew)); exact HO_12.out)⟩; have n1_ : Aside0 (Kd.R Kd.bool 4 wr w.heap.size (fun k_ => some k_ ≠ (v130 : Value).ownBlock) (.slice Ao19 x9_1.length co19) x9_1) := ⟨by rw [← hq_]; exact (by (with_reducible repeat (first | apply Kd.R_alloc | apply Kd.R_drewN | apply Kd.R_drew)); exact HO_9.out)⟩; have n2_ : Aside0 (Below w.heap.size w wr) := ⟨by rw [← hq_]; exact (by repeat (first | (with_reducible first | exact HB.out | apply below_alloc | apply pw_below_drewN | apply below_drew1) | exact HB.out))⟩; clear HO_12 HO_9 HB hq_; have HO_12 := n0_; have HO_9 := n1_; have HB := n2_; clear n0_ n1_ n2_)); have p136 : 0 ≤ ((ji38) : Int) := of_decide_eq_true (by first | (with_reducible assumption) | assumption); have q136 : (ji38) < (x9_1.length : Int) := of_decide_eq_true (by first | (with_reducible assumption) | assumption); obtain ⟨ad136, e136, hx136_0⟩ := Kd.at_bool (Kd.R_reads' HO_9.out).2.2 (ji38) p136 q136; (try rw [← Nbq41.out] at hx136_0); cases e136; replace p136 := eq_true p136; replace q136 := eq_true q136; have p137 : 0 ≤ ((ji38) : Int) := of_decide_eq_true (by first | (with_reducible assumption) | assumption); have q137 : (ji38) < (l1.length : Int) := of_decide_eq_true (by first | (with_reducible assumption) | assumption); obtain ⟨ad137, e137, hx137_0⟩ := Kd.at_int HR1.out (ji38) p137 q137; cases e137; replace hx137_0 := (HB.out.cell (World.block_lt_of_cell? w _ hx137_0)).trans hx137_0; replace p137 := eq_true p137; replace q137 := eq_true q137) | (go_at_call 52; (with_reducible refine (blob_partFits_2.calls (rd l0 x23_1) (rd l1 (ji38)) t138 _ A44.out).mono ?_); rintro e w' ⟨rfl, ⟨nd, rfl⟩⟩; (try (rw [drewN_self wr]; generalize hq_ : World.drewN wr _ = wr; have n0_ : Aside0 (Kd.R Kd.bool 4 wr w.heap.size (fun k_ => some k_ ≠ (.slice (some ad136) x9_1.length co19 : Value).ownBlock) v130 x12_2) := ⟨by rw [← hq_]; exact (by (with_reducible repeat (first | apply Kd.R_alloc | apply Kd.R_drewN | apply Kd.R_drew)); exact HO_12.out)⟩; have n1_ : Aside0 (Kd.R Kd.bool 4 wr w.heap.size (fun k_ => some k_ ≠ (v130 : Value).ownBlock) (.slice (some ad136) x9_1.length co19) x9_1) := ⟨by rw [← hq_]; exact (by (with_reducible repeat (first | apply Kd.R_alloc | apply Kd.R_drewN | apply Kd.R_drew)); exact HO_9.out)⟩; have n2_ : Aside0 (Below w.heap.size w wr) := ⟨by rw [← hq_]; exact (by repeat (first | (with_reducible first | exact HB.out | apply below_alloc | apply pw_below_drewN | apply below_drew1) | exact HB.out))⟩; clear HO_12 HO_9 HB hq_; have HO_12 := n0_; have HO_9 := n1_; have HB := n2_; clear n0_ n1_ n2_)); have p47 : 0 ≤ (x32_2 : Int) := of_decide_eq_true (by first | (with_reducible assumption) | assumption); have q47 : (x32_2 : Int) < ((x12_2.length : Int) : Int) := of_decide_eq_true (by first | (with_reducible assumption) | assumption); obtain ⟨go47, co47, eo47, gb47, gl47, cl47, HG47⟩ := Kd.R_form HO_12.out (by omega); (first | cases eo47 | (injection eo47 with ea_ en_ ec_; (first | subst ea_ | (injection ea_ with ea_; subst ea_)); subst ec_; clear en_)); have GB47 := Aside0.mk gb47; have GG47 := Aside0.mk HG47; clear gb47 gl47 HG47; obtain ⟨hx47_0, hf47_0⟩ := Kd.R_celln false HO_12.out (x32_2 : Int) p47 q47; replace p47 := eq_true p47; replace q47 := eq_true q47; obtain ⟨hy48_, hz48_⟩ := Kd.R_celln false HO_12.out (x32_2 : Int) (of_decide_eq_true (by first | (with_reducible assumption) | assumption)) (of_decide_eq_true (by first | (with_reducible assumption) | assumption)); have HP48 := Kd.R_putg HO_12.out (x32_2 : Int) t138) | ((with_reducible refine gate_store (t := 4) (p := 68) rfl ?_); refine store_event (t := 4) (p := 68) (v := ?vo_w49) (w1 := (wr.setCell ⟨go47, (x32_2 : Int).toNat, none⟩ (.bool t138))) ?hg ?ho ?hn ?hr ?_; (case ho => rfl); (case hg => rfl); (case hn => rfl); (case hr => first | (go_simp; done) | (go_simp; rfl)); intro w49 hw; have hg : wr.grownBy w49 (some go47) := (by rw [hw]; exact HP48.2); have hp_ : Kd.R Kd.bool 4 w49 w.heap.size (fun k_ => some k_ ≠ (.slice (some ad136) x9_1.length co19 : Value).ownBlock) (.slice (some ⟨go47, 0, none⟩) x12_2.length co47) y139 := (by rw [hw, Ny139.out]; exact HP48.1); clear HP48; have n0_ := Aside0.mk (Kd.R_after (v := (.slice (some ⟨go47, 0, none⟩) x12_2.length co47)) (v1 := (.slice (some ⟨go47, 0, none⟩) x12_2.length co47)) (ok := (fun _ => True)) (by (with_reducible repeat (first | apply Kd.R_alloc | apply Kd.R_drewN | apply Kd.R_drew)); exact Kd.R_mono HO_9.out (fun _ hk => ⟨trivial, hk⟩)) hg (.inl rfl)); have n1_ := Aside0.mk (hp_); have n2_ := Aside0.mk ((by rw [hw]; exact below_set (HB.out) GB47.out : Below w.heap.size w w49)); clear HO_9; clear HO_12; clear HB; have HO_9 := n0_; have HO_12 := n1_; have HB := n2_; clear n0_ n1_ n2_; clear hg hw hp_))
                                            go_roundg k2
                                            case measure => have := HK1.out; have := HK2.out; omega
                                            case rel => exact ⟨(y139), (x13_2), (wrap64 (x32_2 + 1)), (by first | rfl | (simp; done) | (simp [*]; done)), (by first | rfl | (simp; done) | (simp [*]; done)), H', ⟨by have := HK1.out; have := HK2.out; omega⟩, ⟨by (with_reducible repeat (first | apply Kd.R_alloc | apply Kd.R_drewN | apply Kd.R_drew)); exact Kd.R_mono HO_9.out (fun _ hk => hk.2)⟩, ⟨by (with_reducible repeat (first | apply Kd.R_alloc | apply Kd.R_drewN | apply Kd.R_drew)); exact HO_12.out⟩, ⟨by repeat (first | (with_reducible first | exact HB.out | apply below_alloc | apply pw_below_drewN | apply below_drew1) | exact HB.out)⟩⟩
                                          · rw [if_neg c46] at H
                                            exact absurd H (by simp)
                                        · rw [if_neg c45] at H
                                          exact absurd H (by simp)
                                      · rw [if_neg c43] at H
                                        exact absurd H (by simp)
                                    · replace c42 := Bool.eq_false_iff.mpr c42
                                      subst c42
                                      have H1 : (if 0 ≤ x32_2 then (if x32_2 < (x12_2.length : Int) then (blob_fits_byte_51_52.l1 k2 l1 x9_1 (rd l0 x23_1) (x12_2.set (x32_2 : Int).toNat false) x13_2 l0 (l0.length : Int) x23_1 (x9_1.length : Int) (wrap64 (x32_2 + 1))) else (none)) else (none)) = some r := by rw [if_neg (show ¬ (false = true) by decide)] at H; exact H
                                      clear H
                                      have H := H1
                                      clear H1
                                      by_cases c50 : 0 ≤ x32_2
                                      · rw [if_pos c50] at H
                                        have c50b0 : decide (0 ≤ x32_2) = true := decide_eq_true c50
                                        clear c50
                                        by_cases c51 : x32_2 < (x12_2.length : Int)
                                        · rw [if_pos c51] at H
                                          have c51b0 : decide (x32_2 < (x12_2.length : Int)) = true := decide_eq_true c51
                                          clear c51
                                          obtain ⟨y140, hy140⟩ : ∃ y_ : List Bool, y_ = (x12_2.set (x32_2 : Int).toNat false) := ⟨_, rfl⟩
                                          replace H : (blob_fits_byte_51_52.l1 k2 l1 x9_1 (rd l0 x23_1) y140 x13_2 l0 (l0.length : Int) x23_1 (x9_1.length : Int) (wrap64 (x32_2 + 1))) = some r := by first | (rw [hy140]; with_reducible exact H) | (have H2_ := (Option.bind_some _ _).symm.trans H; rw [hy140]; with_reducible exact H2_) | (have H2_ := (Option.bind_some _ _).symm.trans H; with_reducible exact H2_) | with_reducible exact H | (rw [hy140]; exact H) | exact H
                                          have Ny140 := Aside0.mk hy140
                                          clear hy140
                                          have H' := Aside0.mk H
                                          clear H
                                          go_wp2_with (first | (go_at_call 51; (with_reducible refine (blob_partFits_1.calls (rd l0 x23_1) false _ A23.out).mono ?_); rintro e w' ⟨rfl, ⟨nd, rfl⟩⟩; (try (rw [drewN_self wr]; generalize hq_ : World.drewN wr _ = wr; have n0_ : Aside0 (Kd.R Kd.bool 4 wr w.heap.size (fun k_ => some k_ ≠ (.slice Ao19 x9_1.length co19 : Value).ownBlock) v130 x12_2) := ⟨by rw [← hq_]; exact (by (with_reducible repeat (first | apply Kd.R_alloc | apply Kd.R_drewN | apply Kd.R_drew)); exact HO_12.out)⟩; have n1_ : Aside0 (Kd.R Kd.bool 4 wr w.heap.size (fun k_ => some k_ ≠ (v130 : Value).ownBlock) (.slice Ao19 x9_1.length co19) x9_1) := ⟨by rw [← hq_]; exact (by (with_reducible repeat (first | apply Kd.R_alloc | apply Kd.R_drewN | apply Kd.R_drew)); exact HO_9.out)⟩; have n2_ : Aside0 (Below w.heap.size w wr) := ⟨by rw [← hq_]; exact (by repeat (first | (with_reducible first | exact HB.out | apply below_alloc | apply pw_below_drewN | apply below_drew1) | exact HB.out))⟩; clear HO_12 HO_9 HB hq_; have HO_12 := n0_; have HO_9 := n1_; have HB := n2_; clear n0_ n1_ n2_)); have p136 : 0 ≤ ((ji38) : Int) := of_decide_eq_true (by first | (with_reducible assumption) | assumption); have q136 : (ji38) < (x9_1.length : Int) := of_decide_eq_true (by first | (with_reducible assumption) | assumption); obtain ⟨ad136, e136, hx136_0⟩ := Kd.at_bool (Kd.R_reads' HO_9.out).2.2 (ji38) p136 q136; (try rw [← Nbq41.out] at hx136_0); cases e136; replace p136 := eq_true p136; replace q136 := eq_true q136; have p52 : 0 ≤ (x32_2 : Int) := of_decide_eq_true (by first | (with_reducible assumption) | assumption); have q52 : (x32_2 : Int) < ((x12_2.length : Int) : Int) := of_decide_eq_true (by first | (with_reducible assumption) | assumption); obtain ⟨go52, co52, eo52, gb52, gl52, cl52, HG52⟩ := Kd.R_form HO_12.out (by omega); (first | cases eo52 | (injection eo52 with ea_ en_ ec_; (first | subst ea_ | (injection ea_ with ea_; subst ea_)); subst ec_; clear en_)); have GB52 := Aside0.mk gb52; have GG52 := Aside0.mk HG52; clear gb52 gl52 HG52; obtain ⟨hx52_0, hf52_0⟩ := Kd.R_celln false HO_12.out (x32_2 : Int) p52 q52; replace p52 := eq_true p52; replace q52 := eq_true q52; obtain ⟨hy53_, hz53_⟩ := Kd.R_celln false HO_12.out (x32_2 : Int) (of_decide_eq_true (by first | (with_reducible assumption) | assumption)) (of_decide_eq_true (by first | (with_reducible assumption) | assumption)); have HP53 := Kd.R_putg HO_12.out (x32_2 : Int) false) | ((with_reducible refine gate_store (t := 4) (p := 68) rfl ?_); refine store_event (t := 4) (p := 68) (v := ?vo_w54) (w1 := (wr.setCell ⟨go52, (x32_2 : Int).toNat, none⟩ (.bool false))) ?hg ?ho ?hn ?hr ?_; (case ho => rfl); (case hg => rfl); (case hn => rfl); (case hr => first | (go_simp; done) | (go_simp; rfl)); intro w54 hw; have hg : wr.grownBy w54 (some go52) := (by rw [hw]; exact HP53.2); have hp_ : Kd.R Kd.bool 4 w54 w.heap.size (fun k_ => some k_ ≠ (.slice (some ad136) x9_1.length co19 : Value).ownBlock) (.slice (some ⟨go52, 0, none⟩) x12_2.length co52) y140 := (by rw [hw, Ny140.out]; exact HP53.1); clear HP53; have n0_ := Aside0.mk (Kd.R_after (v := (.slice (some ⟨go52, 0, none⟩) x12_2.length co52)) (v1 := (.slice (some ⟨go52, 0, none⟩) x12_2.length co52)) (ok := (fun _ => True)) (by (with_reducible repeat (first | apply Kd.R_alloc | apply Kd.R_drewN | apply Kd.R_drew)); exact Kd.R_mono HO_9.out (fun _ hk => ⟨trivial, hk⟩)) hg (.inl rfl)); have n1_ := Aside0.mk (hp_); have n2_ := Aside0.mk ((by rw [hw]; exact below_set (HB.out) GB52.out : Below w.heap.size w w54)); clear HO_9; clear HO_12; clear HB; have HO_9 := n0_; have HO_12 := n1_; have HB := n2_; clear n0_ n1_ n2_; clear hg hw hp_))
                                          go_roundg k2
                                          case measure => have := HK1.out; have := HK2.out; omega
                                          case rel => exact ⟨(y140), (x13_2), (wrap64 (x32_2 + 1)), (by first | rfl | (simp; done) | (simp [*]; done)), (by first | rfl | (simp; done) | (simp [*]; done)), H', ⟨by have := HK1.out; have := HK2.out; omega⟩, ⟨by (with_reducible repeat (first | apply Kd.R_alloc | apply Kd.R_drewN | apply Kd.R_drew)); exact Kd.R_mono HO_9.out (fun _ hk => hk.2)⟩, ⟨by (with_reducible repeat (first | apply Kd.R_alloc | apply Kd.R_drewN | apply Kd.R_drew)); exact HO_12.out⟩, ⟨by repeat (first | (with_reducible first | exact HB.out | apply below_alloc | apply pw_below_drewN | apply below_drew1) | exact HB.out)⟩⟩
                                        · rw [if_neg c51] at H
                                          exact absurd H (by simp)
                                      · rw [if_neg c50] at H
                                        exact absurd H (by simp)
                                  · rw [if_neg c40] at H
                                    exact absurd H (by simp)
                                · rw [if_neg c39] at H
                                  exact absurd H (by simp)
                              · rw [if_neg c37] at H
                                have c37b0 : decide (0 < x32_2) = false := decide_eq_false c37
                                clear c37
                                have H' := Aside0.mk H
                                clear H
                                go_wp2_with (first | (go_at_call 51; (with_reducible refine (blob_partFits_1.calls (rd l0 x23_1) false _ A23.out).mono ?_); rintro e w' ⟨rfl, ⟨nd, rfl⟩⟩))
                                go_roundg k2
                                case measure => have := HK1.out; have := HK2.out; omega
                                case rel => exact ⟨(x12_2), (x13_2), (wrap64 (x32_2 + 1)), (by first | rfl | (simp; done) | (simp [*]; done)), (by first | rfl | (simp; done) | (simp [*]; done)), H', ⟨by have := HK1.out; have := HK2.out; omega⟩, ⟨by (with_reducible repeat (first | apply Kd.R_alloc | apply Kd.R_drewN | apply Kd.R_drew)); exact HO_9.out⟩, ⟨by (with_reducible repeat (first | apply Kd.R_alloc | apply Kd.R_drewN | apply Kd.R_drew)); exact HO_12.out⟩, ⟨by repeat (first | (with_reducible first | exact HB.out | apply below_alloc | apply pw_below_drewN | apply below_drew1) | exact HB.out)⟩⟩
                          · rw [if_neg c22] at H
                            have c22b0 : decide (x32_2 < (x9_1.length : Int)) = false := decide_eq_false c22
                            clear c22
                            have H' := Aside0.mk H
                            clear H
                            go_wp2
                            go_roundg k2
                            case measure => have := HK1.out; have := HK2.out; omega
                            case rel => exact ⟨(x12_2), (wrap64 (x23_1 + 1)), (by first | rfl | (simp; done) | (simp [*]; done)), H', ⟨by have := HK1.out; have := HK2.out; omega⟩, ⟨by (with_reducible repeat (first | apply Kd.R_alloc | apply Kd.R_drewN | apply Kd.R_drew)); exact Kd.R_mono HO_12.out (fun _ hk => trivial)⟩, ⟨by repeat (first | (with_reducible first | exact HB.out | apply below_alloc | apply pw_below_drewN | apply below_drew1) | exact HB.out)⟩⟩
                    · rw [if_neg c18] at H
                      exact absurd H (by simp)
                  · rw [if_neg c17] at H
                    exact absurd H (by simp)
                · rw [if_neg c16] at H
                  exact absurd H (by simp)
              · rw [if_neg c15] at H
                exact absurd H (by simp)
            · rw [if_neg c14] at H
              have c14b0 : decide (x23_1 < (l0.length : Int)) = false := decide_eq_false c14
              clear c14
              by_cases c55 : 0 ≤ (l1.length : Int)
              · rw [if_pos c55] at H
                have c55b0 : decide (0 ≤ (l1.length : Int)) = true := decide_eq_true c55
                have c55b1 : decide (0 ≤ l1.length) = true := decide_eq_true (by omega)
                clear c55
                by_cases c56 : (l1.length : Int) < (x9_1.length : Int)
                · rw [if_pos c56] at H
                  have c56b0 : decide ((l1.length : Int) < (x9_1.length : Int)) = true := decide_eq_true c56
                  have c56b1 : decide (l1.length < x9_1.length) = true := decide_eq_true (Int.ofNat_lt.mp c56)
                  clear c56
                  obtain rfl := Option.some.inj H
                  obtain ⟨Ao57, co57, eo57⟩ := Kd.R_slice HO_9.out
                  subst eo57
                  have p127 : 0 ≤ ((l1.length : Int) : Int) := of_decide_eq_true (by first | (with_reducible assumption) | assumption)
                  have q127 : (l1.length : Int) < (x9_1.length : Int) := of_decide_eq_true (by first | (with_reducible assumption) | assumption)
                  obtain ⟨ad127, e127, hx127_0⟩ := Kd.at_bool (Kd.R_reads' HO_9.out).2.2 (l1.length : Int) p127 q127
                  cases e127
                  (try simp only [Go.IntWalk.toNatUp] at hx127_0)
                  replace p127 := eq_true p127
                  replace q127 := eq_true q127
                  go_wp2
                  go_ret
                  exact ⟨by first | rfl | (simp [errW_none, errW_some] <;> rfl) | (simp only [← hji5]; first | rfl | (simp [errW_none, errW_some] <;> rfl)) | (simp [*, errW_none, errW_some] <;> rfl), by repeat (first | (with_reducible first | exact HB.out | apply below_alloc | apply pw_below_drewN | apply below_drew1) | exact HB.out)⟩
                · rw [if_neg c56] at H
                  exact absurd H (by simp)
              · rw [if_neg c55] at H
                exact absurd H (by simp)
      · rw [if_neg c8] at H
        exact absurd H (by simp)
    · rw [if_neg c7] at H
      exact absurd H (by simp)
  · rw [if_neg c6] at H
    exact absurd H (by simp)

/-! ### blob_partFits: function 38 -/
def blob_partFits.f (k : Nat) (a0 : ByteArray) (a1 : ByteArray) : Option Bool := if a0.size ≤ 9223372036854775807 then (if a1.size ≤ 9223372036854775807 then blob_fits_byte_51_52.f k (bytesOf a0) (bytesOf a1) else none) else none
theorem blob_partFits.mono : ∀ a0 a1 k, LeO (blob_partFits.f k a0 a1) (blob_partFits.f (k + 1) a0 a1) := by
  intro a0 a1 k
  exact LeO.ite (LeO.ite (blob_fits_byte_51_52.mono _ _ _) (LeO.refl _)) (LeO.refl _)
set_option maxHeartbeats 8000000 in
set_option maxRecDepth 100000 in
theorem blob_partFits.calls (k : Nat) (a0 : ByteArray) (a1 : ByteArray) (r : Bool) (w : World) (h : blob_partFits.f k a0 a1 = some r) :
    Calls Tryd.prog 38 #[.string a0, .string a1] w fun e w' => e = .returned (.bool r) ∧ Below w.heap.size w w' := by
  unfold blob_partFits.f at h
  by_cases c0 : a0.size ≤ 9223372036854775807
  · rw [if_pos c0] at h
    by_cases c1 : a1.size ≤ 9223372036854775807
    · rw [if_pos c1] at h
      have H := Aside0.mk h
      have S0 := Aside0.mk c0
      have S1 := Aside0.mk c1
      clear h c0 c1
      have kb := fun (s : ByteArray) (W : World) => print_bytes (P := Tryd.prog) 9 32 5 Tryd.underlying9 Tryd.underlying32 Tryd.underlying5 s W
      go_enter Tryd.func38, Tryd.ntmps38
      go_wp2_with fail
      have C := blob_fits_byte_51_52.calls k (some ⟨w.heap.size, 0, none⟩) (grownCap w a0.size 0 5) (bytesOf a0) (some ⟨(Lib.bytesWorld w 5 a0).heap.size, 0, none⟩) (grownCap (Lib.bytesWorld w 5 a0) a1.size 0 5) (bytesOf a1) r (Lib.bytesWorld (Lib.bytesWorld w 5 a0) 5 a1) (Kd.C_below (Conv.bytes_C w 5 a0 S0.out) (Conv.bytes_grown _ _ _)) (by rw [bytesOf_length]; exact grownCap_ge _ _ _ _) (Conv.bytes_C _ _ a1 S1.out) (by rw [bytesOf_length]; exact grownCap_ge _ _ _ _) H.out
      rw [bytesOf_length, bytesOf_length] at C
      refine C.mono ?_
      rintro e w' ⟨rfl, hb⟩
      have HB := Aside0.mk (((Conv.bytes_grown w 5 a0).trans ((Conv.bytes_grown (Lib.bytesWorld w 5 a0) 5 a1).mono (by rw [Lib.bytesWorld_size]; omega))).trans (hb.mono (by rw [Lib.bytesWorld_size, Lib.bytesWorld_size]; omega)))
      clear hb C kb
      go_wp2
      go_ret
      exact ⟨rfl, HB.out⟩
    · rw [if_neg c1] at h
      exact absurd h (by simp)
  · rw [if_neg c0] at h
    exact absurd h (by simp)

end Go.Proofs.YtjdfbpjbobmgdaaDoor.QPat
