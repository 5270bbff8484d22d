-- Written by this session's program (wip/tools/pp.py) out of the translation; Lean checks it.
import Derived.Test.YtjdfbpjbobmgdaaQTogether0
import Derived.Test.YtjdfbpjbobmgdaaQTogether2
namespace Go.Proofs.Ytjdfbpjbobmgdaa.QTogether
open Go.RowKit Go.Proofs.YtjdfbpjbobmgdaaW.PrintWords Go.Proofs.YtjdfbpjbobmgdaaW.PrintLast Go.Proofs.YtjdfbpjbobmgdaaW.PrintMore
attribute [local go_sem] max2_int min2_int max_two min_two max_three min_three max_four min_four   -- for this text's walks alone
attribute [local go_sem] Go.Proofs.Ytjdfbpjbobmgdaa.StrOps.str_gtr Go.Proofs.Ytjdfbpjbobmgdaa.StrOps.str_leq Go.Proofs.Ytjdfbpjbobmgdaa.StrOps.str_geq
set_option linter.unusedVariables false
set_option linter.unusedSimpArgs false

section
open Go.Proofs.Ytjdfbpjbobmgdaa.MapWords
/-! ### blob_Shared: function 16 -/
def blob_Shared.la : List Int → List Int → List (ByteArray × Bool) → Option (List (ByteArray × Bool))
  | [], _, m => some m
  | n :: x, a, m => if 0 ≤ n ∧ n ≤ (a.length : Int) then blob_Shared.la x (a.drop n.toNat) (mput m (strOfNums (a.take n.toNat)) true) else none
def blob_Shared.lb (m : List (ByteArray × Bool)) : List Int → List Int → Int → Option Int
  | [], _, s => some s
  | n :: y, b, s => if 0 ≤ n ∧ n ≤ (b.length : Int) then blob_Shared.lb m y (b.drop n.toNat) (if (mget m (strOfNums (b.take n.toNat))).getD false = true then wrap64 (s + n) else s) else none
def blob_Shared.f (k : Nat) (l0 : List Int) (l1 : List Int) (a2 : Int) (a3 : Int) (a4 : Int) : Option (Int × Int) :=
  (blob_Pieces.f k l0 a2 a3 a4).bind fun x => if x.2 = 0 then (blob_Pieces.f k l1 a2 a3 a4).bind fun y => if y.2 = 0 then (blob_Shared.la x.1 l0 []).bind fun m => (blob_Shared.lb m y.1 l1 0).bind fun s => some (s, 0) else some (0, y.2) else some (0, x.2)
theorem blob_Shared.mono : ∀ a0 a1 a2 a3 a4 k, LeO (blob_Shared.f k a0 a1 a2 a3 a4) (blob_Shared.f (k + 1) a0 a1 a2 a3 a4) := by
  intro a0 a1 a2 a3 a4 k
  unfold blob_Shared.f
  exact LeO.bind (blob_Pieces.mono _ _ _ _ _) fun x => LeO.ite (LeO.bind (blob_Pieces.mono _ _ _ _ _) fun y => LeO.refl _) (LeO.refl _)
set_option maxHeartbeats 8000000 in
set_option maxRecDepth 100000 in
theorem blob_Shared.calls (k : Nat) (A0 : Option Addr) (c0 : Nat) (l0 : List Int) (A1 : Option Addr) (c1 : Nat) (l1 : List Int) (a2 : Int) (a3 : Int) (a4 : Int) (r1 : Int) (r2 : Int) (w : World) (hr0 : Kd.C (Kd.int .u8) w A0 l0.length l0) (hc0 : l0.length ≤ c0) (hr1 : Kd.C (Kd.int .u8) w A1 l1.length l1) (hc1 : l1.length ≤ c1) (h : blob_Shared.f k l0 l1 a2 a3 a4 = some (r1, r2)) :
    Calls Try.prog 16 #[.slice A0 l0.length c0, .slice A1 l1.length c1, .int .i64 a2, .int .i64 a3, .int .i64 a4] w fun e w' => e = .returned (.tuple #[.int .i64 r1, .int .i64 r2]) ∧ Below w.heap.size w w' := by
  have HR0 := Aside0.mk hr0
  have HC0 := Aside0.mk hc0
  have HR1 := Aside0.mk hr1
  have HC1 := Aside0.mk hc1
  clear hr0 hc0 hr1 hc1
  unfold blob_Shared.f at h
  obtain ⟨⟨x, fx⟩, hx, h⟩ := Option.bind_eq_some_iff.1 h
  simp only at h
  have HX := Aside0.mk hx
  clear hx
  by_cases hfx : fx = 0
  · rw [if_pos hfx] at h
    subst hfx
    obtain ⟨⟨y, fy⟩, hy, h⟩ := Option.bind_eq_some_iff.1 h
    simp only at h
    have HY := Aside0.mk hy
    clear hy
    by_cases hfy : fy = 0
    · rw [if_pos hfy] at h
      subst hfy
      obtain ⟨M, hM, h⟩ := Option.bind_eq_some_iff.1 h
      obtain ⟨s, hs, h⟩ := Option.bind_eq_some_iff.1 h
      simp only [Option.some.injEq, Prod.mk.injEq] at h
      obtain ⟨rfl, rfl⟩ := h
      have HM := Aside0.mk hM
      have HS := Aside0.mk hs
      clear hM hs h
      have hmm := @run_makeMap Try.prog
      go_enter Try.func16, Try.ntmps16
      go_wp2_with fail
      refine (blob_Pieces.calls k _ _ l0 a2 a3 a4 x 0 _ HR0.out HC0.out HX.out).mono ?_
      rintro e w1 ⟨vx, rfl, hox, hb1⟩
      have HOX := Aside0.mk hox
      have HB1 := Aside0.mk hb1
      clear hox hb1
      go_wp2_with fail
      refine (blob_Pieces.calls k _ _ l1 a2 a3 a4 y 0 _ (Kd.C_below HR1.out HB1.out) HC1.out HY.out).mono ?_
      rintro e w2 ⟨vy, rfl, hoy, hb2⟩
      have HB2 := Aside0.mk (below_step HB1.out hb2)
      have HOX2 := Aside0.mk (Kd.R_below HOX.out hb2)
      have HOY2 := Aside0.mk (Kd.R_lower hoy HB1.out.size)
      clear hoy hb2 HOX HB1
      obtain ⟨Ax, cx, ex⟩ := Kd.R_slice HOX2.out
      subst ex
      obtain ⟨Ay, cy, ey⟩ := Kd.R_slice HOY2.out
      subst ey
      go_wp2
      have hmap0 : HasMap EB (w2.alloc (.map #[] 0)) w2.heap.size [] := HasMap.made EB w2
      have HOX3 := Aside0.mk (Kd.R_below HOX2.out (below_alloc (Below.refl _ _) (.map #[] 0)))
      have HOY3 := Aside0.mk (Kd.R_below HOY2.out (below_alloc (Below.refl _ _) (.map #[] 0)))
      have HB3 := Aside0.mk (below_alloc HB2.out (.map #[] 0))
      clear HOX2 HOY2
      have HBM := Aside0.mk HB2.out.size
      generalize hbm : w2.heap.size = bm at *
      have HM0 := Aside0.mk hmap0
      clear hmap0 hbm
      go_loopg [0, 46] x.length (fun kq v0 v46 w' => ∃ (A : Option Addr) (c : Nat) (a : List Int) (i : Nat) (m : List (ByteArray × Bool)), v0 = .slice A a.length c ∧ v46 = .int .i64 i ∧ Aside0 (Kd.C (Kd.int .u8) w A a.length a) ∧ Aside0 (a.length ≤ c) ∧ Aside0 (i + kq = x.length) ∧ Aside0 (blob_Shared.la (x.drop i) a m = some M) ∧ Aside0 (HasMap EB w' bm m) ∧ Aside0 (Kd.R (Kd.int .i64) 3 w' w.heap.size (fun _ => True) (.slice Ax x.length cx) x) ∧ Aside0 (Kd.R (Kd.int .i64) 3 w' w.heap.size (fun _ => True) (.slice Ay y.length cy) y) ∧ Aside0 (Below w.heap.size w w'))
      case atStart => exact ⟨A0, c0, l0, 0, [], rfl, rfl, HR0, HC0, ⟨by omega⟩, HM, HM0, HOX3, HOY3, HB3⟩
      case round =>
        obtain ⟨A, c, a, i, m, rfl, rfl, HA, HC, HI, HL, HMM, HX2, HY2, HB4⟩ := hrel
        cases gk with
        | zero =>
          have hge : ¬ i < x.length := by have := HI.out; omega
          have hL := HL.out
          rw [List.drop_eq_nil_of_le (by omega)] at hL
          simp only [blob_Shared.la, Option.some.injEq] at hL
          subst hL
          have t1 : decide (i < x.length) = false := decide_eq_false hge
          clear HL HM HM0 HOX3 HOY3 HB3 hge HI
          go_wp2
          go_loopg [1, 18, 61] y.length (fun kq v1 v18 v61 w' => ∃ (A : Option Addr) (c : Nat) (b : List Int) (j : Nat) (q : Int), v1 = .slice A b.length c ∧ v18 = .int .i64 q ∧ v61 = .int .i64 j ∧ Aside0 (Kd.C (Kd.int .u8) w A b.length b) ∧ Aside0 (b.length ≤ c) ∧ Aside0 (j + kq = y.length) ∧ Aside0 (blob_Shared.lb m (y.drop j) b q = some s) ∧ Aside0 (HasMap EB w' bm m) ∧ Aside0 (Kd.R (Kd.int .i64) 3 w' w.heap.size (fun _ => True) (.slice Ay y.length cy) y) ∧ Aside0 (Below w.heap.size w w'))
          case atStart => exact ⟨A1, c1, l1, 0, 0, rfl, rfl, rfl, HR1, HC1, ⟨by omega⟩, HS, HMM, HY2, HB4⟩
          case round =>
            clear HMM HX2 HY2 HB4 HS
            obtain ⟨A3, c3, b, j, q, rfl, rfl, rfl, HA3, HC3, HI3, HL3, HM3, HY3, HB3⟩ := hrel
            cases gk with
            | zero =>
              have hge : ¬ j < y.length := by have := HI3.out; omega
              have hL := HL3.out
              rw [List.drop_eq_nil_of_le (by omega)] at hL
              simp only [blob_Shared.lb, Option.some.injEq] at hL
              subst hL
              have t2 : decide (j < y.length) = false := decide_eq_false hge
              clear hge HI3
              go_wp2
              go_ret2
              exact ⟨rfl, HB3.out⟩
            | succ k1 =>
              have hlt : j < y.length := by have := HI3.out; omega
              have hL := HL3.out
              rw [List.drop_eq_getElem_cons hlt] at hL
              simp only [blob_Shared.lb] at hL
              by_cases hn : 0 ≤ y[j] ∧ y[j] ≤ (b.length : Int)
              · rw [if_pos hn] at hL
                have HL2 := Aside0.mk hL
                clear hL HL3
                obtain ⟨hn0, hn1⟩ := hn
                have HIW := Aside0.mk (show wrap64 ((j : Int) + 1) = ((j + 1 : Nat) : Int) from by have := (Kd.R_reads' HY3.out).2.2.2.1; unfold wrap64; omega)
                have t2 : decide (j < y.length) = true := decide_eq_true hlt
                obtain ⟨ad, ead, hcell⟩ := Kd.at_int (Kd.R_reads' HY3.out).2.2 (j : Int) (by omega) (by omega)
                subst ead
                rw [rd, Int.toNat_natCast, List.getD_eq_getElem?_getD, List.getElem?_eq_getElem hlt, Option.getD_some] at hcell
                generalize hxn : y[j] = n at *
                clear hxn
                obtain ⟨i0, hi0, _, hsz, _⟩ := info_parts info5
                obtain ⟨hcut1, hA1, hC1⟩ := print_take_of (P := Try.prog) (Value.int .u8) 0 22 5 .i64 Try.underlying22 hi0 hsz A3 c3 b n hn0 hn1 HC3.out
                obtain ⟨A2, hcut2, hA2, hC2⟩ := print_drop_of (P := Try.prog) (Value.int .u8) 0 22 5 .i64 Try.underlying22 hi0 hsz A3 c3 b n hn0 hn1 HC3.out
                have HR1' := Aside0.mk (Kd.C_of_reads (h1 := fun _ => rfl) (hA1 _ (Kd.reads_of_C HA3.out)))
                have HR2' := Aside0.mk (Kd.C_of_reads (h1 := fun _ => rfl) (hA2 _ (Kd.reads_of_C HA3.out)))
                have HC2 := Aside0.mk hC2
                clear hA1 hA2 hC1 hC2 hi0 hsz
                generalize hta : b.take n.toNat = b1 at *
                generalize htb : b.drop n.toNat = b2 at *
                have HTA := Aside0.mk hta
                have HTB := Aside0.mk htb
                clear hta htb
                have hcv := Kd.C_string (P := Try.prog) (A := A3) (c := c3) Try.underlying22 Try.underlying5 Try.underlying9 (Kd.C_below HR1'.out HB3.out)
                obtain ⟨z, hlk, hz1, hz2⟩ := HM3.out.lookup (P := Try.prog) Try.underlying48 Try.underlying9 (z := .bool false) (by kernel_rfl) (strOfNums b1) false
                have hzv : z = .bool ((mget m (strOfNums b1)).getD false) := by
                  cases hg : mget m (strOfNums b1) with
                  | none => exact hz2 hg
                  | some v => exact hz1 v hg
                subst hzv
                clear hz1 hz2
                simp only [Bool.false_eq_true, if_false] at hlk
                cases hg : (mget m (strOfNums b1)).getD false with
                | true =>
                  rw [hg] at hlk
                  rw [hg, if_pos rfl] at HL2
                  clear hg
                  go_wp2
                  go_roundg k1
                  case measure => omega
                  case rel =>
                    refine ⟨A2, c3 - n.toNat, b2, j + 1, wrap64 (q + n), ?_, ?_, ?_, HR2', HC2, ?_, HL2, HM3, HY3, HB3⟩
                    · rfl
                    · rfl
                    · rw [HIW.out]
                    · exact ⟨by have := HI3.out; omega⟩
                | false =>
                  rw [hg] at hlk
                  rw [hg, if_neg (by simp)] at HL2
                  clear hg
                  go_wp2
                  go_roundg k1
                  case measure => omega
                  case rel =>
                    refine ⟨A2, c3 - n.toNat, b2, j + 1, q, ?_, ?_, ?_, HR2', HC2, ?_, HL2, HM3, HY3, HB3⟩
                    · rfl
                    · rfl
                    · rw [HIW.out]
                    · exact ⟨by have := HI3.out; omega⟩
              · rw [if_neg hn] at hL
                exact absurd hL (by simp)
        | succ k1 =>
          have hlt : i < x.length := by have := HI.out; omega
          have hL := HL.out
          rw [List.drop_eq_getElem_cons hlt] at hL
          simp only [blob_Shared.la] at hL
          by_cases hn : 0 ≤ x[i] ∧ x[i] ≤ (a.length : Int)
          · rw [if_pos hn] at hL
            have HL2 := Aside0.mk hL
            clear hL HL
            obtain ⟨hn0, hn1⟩ := hn
            have HIW := Aside0.mk (show wrap64 ((i : Int) + 1) = ((i + 1 : Nat) : Int) from by have := (Kd.R_reads' HX2.out).2.2.2.1; unfold wrap64; omega)
            have t1 : decide (i < x.length) = true := decide_eq_true hlt
            obtain ⟨ad, ead, hcell⟩ := Kd.at_int (Kd.R_reads' HX2.out).2.2 (i : Int) (by omega) (by omega)
            subst ead
            rw [rd, Int.toNat_natCast, List.getD_eq_getElem?_getD, List.getElem?_eq_getElem hlt, Option.getD_some] at hcell
            generalize hxn : x[i] = n at *
            clear hxn
            obtain ⟨i0, hi0, _, hsz, _⟩ := info_parts info5
            obtain ⟨hcut1, hA1, hC1⟩ := print_take_of (P := Try.prog) (Value.int .u8) 0 22 5 .i64 Try.underlying22 hi0 hsz A c a n hn0 hn1 HC.out
            obtain ⟨A2, hcut2, hA2, hC2⟩ := print_drop_of (P := Try.prog) (Value.int .u8) 0 22 5 .i64 Try.underlying22 hi0 hsz A c a n hn0 hn1 HC.out
            generalize hta : a.take n.toNat = a1 at *
            generalize htb : a.drop n.toNat = a2' at *
            have HTA := Aside0.mk hta
            have HTB := Aside0.mk htb
            clear hta htb
            have HR1' := Aside0.mk (Kd.C_of_reads (h1 := fun _ => rfl) (hA1 _ (Kd.reads_of_C HA.out)))
            have HR2' := Aside0.mk (Kd.C_of_reads (h1 := fun _ => rfl) (hA2 _ (Kd.reads_of_C HA.out)))
            have HC2 := Aside0.mk hC2
            clear hA1 hA2 hC1 hC2 hi0 hsz
            have hcv := Kd.C_string (P := Try.prog) (A := A) (c := c) Try.underlying22 Try.underlying5 Try.underlying9 (Kd.C_below HR1'.out HB4.out)
            go_wp2_with (at_mapUpdate; refine wp_mapUpdate rfl (.tmp 50) (.tmp 54) (.const (.bool true)) 48 rfl Try.underlying48 Try.underlying9 rfl (strOfNums a1) rfl (.bool true) rfl HMM.out true rfl ?_; intro w5 hm5 hg5; have HM5 := Aside0.mk hm5; have HX5 := Aside0.mk (HMM.out.R_keep HX2.out hg5); have HY5 := Aside0.mk (HMM.out.R_keep HY2.out hg5); have HB5 := Aside0.mk (HB4.out.grown hg5 HB4.out.size (fun k hk => by injection hk with hk; subst hk; exact HBM.out)); clear hm5 hg5)
            go_roundg k1
            case measure => omega
            case rel =>
              refine ⟨A2, c - n.toNat, a2', i + 1, mput m (strOfNums a1) true, ?_, ?_, HR2', HC2, ?_, HL2, HM5, HX5, HY5, HB5⟩
              · rfl
              · rw [HIW.out]
              · exact ⟨by have := HI.out; omega⟩
          · rw [if_neg hn] at hL
            exact absurd hL (by simp)
    · rw [if_neg hfy] at h
      simp only [Option.some.injEq, Prod.mk.injEq] at h
      obtain ⟨rfl, rfl⟩ := h
      have t1 : (fy == 0) = false := beq_eq_false_iff_ne.mpr hfy
      have t2 : (fy != 0) = true := bne_iff_ne.mpr hfy
      clear hfy
      go_enter Try.func16, Try.ntmps16
      go_wp2_with fail
      refine (blob_Pieces.calls k _ _ l0 a2 a3 a4 x 0 _ HR0.out HC0.out HX.out).mono ?_
      rintro e w1 ⟨vx, rfl, hox, hb1⟩
      have HB1 := Aside0.mk hb1
      clear hox hb1
      go_wp2_with fail
      refine (blob_Pieces.calls k _ _ l1 a2 a3 a4 y fy _ (Kd.C_below HR1.out HB1.out) HC1.out HY.out).mono ?_
      rintro e w2 ⟨vy, rfl, hoy, hb2⟩
      have HB2 := Aside0.mk (below_step HB1.out hb2)
      clear hoy hb2 HB1
      go_wp2
      go_ret2
      exact ⟨rfl, HB2.out⟩
  · rw [if_neg hfx] at h
    simp only [Option.some.injEq, Prod.mk.injEq] at h
    obtain ⟨rfl, rfl⟩ := h
    have t1 : (fx == 0) = false := beq_eq_false_iff_ne.mpr hfx
    have t2 : (fx != 0) = true := bne_iff_ne.mpr hfx
    clear hfx
    go_enter Try.func16, Try.ntmps16
    go_wp2_with fail
    refine (blob_Pieces.calls k _ _ l0 a2 a3 a4 x fx _ HR0.out HC0.out HX.out).mono ?_
    rintro e w1 ⟨vx, rfl, hox, hb1⟩
    have HB1 := Aside0.mk hb1
    clear hox hb1
    go_wp2
    go_ret2
    exact ⟨rfl, HB1.out⟩
end

-- (function 31 is met inside slices.Concat)

/-! ### slices_Concat_byte_byte: function 26 -/
def slices_Concat_byte_byte.size : List (List Int) → Nat
  | [] => 0
  | x :: l => x.length + slices_Concat_byte_byte.size l
def slices_Concat_byte_byte.f (l0 : List (List Int)) : Option (List Int) := if slices_Concat_byte_byte.size l0 < 140737488355328 then some l0.flatten else none
theorem slices_Concat_byte_byte.size_drop (l : List (List Int)) (i : Nat) (h : i < l.length) : slices_Concat_byte_byte.size (l.drop i) = l[i].length + slices_Concat_byte_byte.size (l.drop (i + 1)) := by rw [List.drop_eq_getElem_cons h, slices_Concat_byte_byte.size]
theorem slices_Concat_byte_byte.size_take (l : List (List Int)) : ∀ i, slices_Concat_byte_byte.size (l.take i) + slices_Concat_byte_byte.size (l.drop i) = slices_Concat_byte_byte.size l := by
  induction l with
  | nil => intro i; simp [slices_Concat_byte_byte.size]
  | cons a l ih =>
    intro i
    cases i with
    | zero => simp [slices_Concat_byte_byte.size]
    | succ i => simp only [List.take_succ_cons, List.drop_succ_cons, slices_Concat_byte_byte.size]; have := ih i; omega
theorem slices_Concat_byte_byte.take_size (l : List (List Int)) (i : Nat) (h : i < l.length) : slices_Concat_byte_byte.size (l.take (i + 1)) = slices_Concat_byte_byte.size (l.take i) + l[i].length := by
  have h1 := slices_Concat_byte_byte.size_take l i
  have h2 := slices_Concat_byte_byte.size_take l (i + 1)
  have h3 := slices_Concat_byte_byte.size_drop l i h
  omega
theorem slices_Concat_byte_byte.flat_len (l : List (List Int)) : l.flatten.length = slices_Concat_byte_byte.size l := by
  induction l with
  | nil => rfl
  | cons a l ih => simp only [List.flatten_cons, List.length_append, slices_Concat_byte_byte.size, ih]
set_option maxHeartbeats 8000000 in
set_option maxRecDepth 100000 in
theorem slices_Concat_byte_byte.grow_nil (S : Nat) (hs : S < 140737488355328) (w : World) :
    Calls Try.prog 31 #[.slice none 0 0, .int .i64 (S : Int)] w fun e w' => ∃ v0_ : Value, e = .returned (v0_) ∧ Kd.R (Kd.int .u8) 5 w' w.heap.size (fun _ => True) v0_ [] ∧ Below w.heap.size w w' := by
  have h0 : ¬ ((S : Int) < 0) := by omega
  by_cases hz : S = 0
  · subst hz
    go_enter Try.func31, Try.ntmps31
    go_wp2
    go_ret
    exact ⟨_, rfl, Kd.R_nil _ _ _ _ _, Below.refl _ _⟩
  · have hp : 0 < S := by omega
    have HSB := Aside0.mk hs
    clear hz
    go_enter Try.func31, Try.ntmps31
    go_wp2_with (first | ((with_reducible refine gate_builtin (b := .append) (xs := #[.tmp 20, .tmp 21]) rfl ?_); refine Kd.R_append_zeros (Kd.int .u8) (w0 := w) w.heap.size rfl (.tmp 20) (.tmp 21) 22 3 5 (.int .u8 0) 1 rfl Try.underlying22 Try.underlying3 info5 rfl (by decide) (by omega) (.slice none 0 0) ([] : List Int) 0 (S : Int) (fun _ => True) rfl rfl rfl (fun _ _ => trivial) (Kd.R_nil _ _ _ _ _) (by omega) (Below.refl _ _) (Nat.le_refl _) ?aL ?_; (case aL => have := HSB.out; simp only [List.length_nil]; omega); intro v146 w3 ho hb hg hat; obtain ⟨Av, cv, ev⟩ := Kd.R_slice ho; subst ev; have n0_ := Aside0.mk hb; have n1_ := Aside0.mk (Kd.R_take (m := 0) ho (by omega)); clear hb ho hg hat))
    go_ret
    exact ⟨_, rfl, by simpa using n1_.out, n0_.out⟩
set_option maxHeartbeats 8000000 in
set_option maxRecDepth 100000 in
theorem slices_Concat_byte_byte.calls (A0 : Option Addr) (c0 : Nat) (l0 : List (List Int)) (r : List Int) (w : World) (hr0 : Kd.C (Kd.slice 5 (Kd.int .u8)) w A0 l0.length l0) (hc0 : l0.length ≤ c0) (h : slices_Concat_byte_byte.f l0 = some r) :
    Calls Try.prog 26 #[.slice A0 l0.length c0] w fun e w' => ∃ v0_ : Value, e = .returned (v0_) ∧ Kd.R (Kd.int .u8) 5 w' w.heap.size (fun _ => True) v0_ r ∧ Below w.heap.size w w' := by
  have hcr : slices_Concat_byte_byte.size l0 < 140737488355328 ∧ l0.flatten = r := by
    unfold slices_Concat_byte_byte.f at h
    by_cases c : slices_Concat_byte_byte.size l0 < 140737488355328
    · rw [if_pos c] at h; exact ⟨c, Option.some.inj h⟩
    · rw [if_neg c] at h; exact absurd h (by simp)
  obtain ⟨hsz, rfl⟩ := hcr
  clear h
  have HR0 := Aside0.mk hr0
  have HC0 := Aside0.mk hc0
  have HSZ := Aside0.mk hsz
  have HLM := Aside0.mk (show l0.length ≤ 9223372036854775807 from hr0.2.1)
  clear hr0 hc0 hsz
  go_enter Try.func26, Try.ntmps26
  go_wp2
  go_loopg [3, 11] l0.length (fun kq v3 v11 w' => ∃ (i : Nat), v3 = .int .i64 (slices_Concat_byte_byte.size (l0.take i) : Nat) ∧ v11 = .int .i64 i ∧ Aside0 (i + kq = l0.length) ∧ w = w')
  case atStart => exact ⟨0, rfl, rfl, ⟨by omega⟩, rfl⟩
  case round =>
    obtain ⟨i, rfl, rfl, HI, rfl⟩ := hrel
    cases gk with
    | zero =>
      have hge : ¬ i < l0.length := by have := HI.out; omega
      have t1 : decide (i < l0.length) = false := decide_eq_false hge
      have HS : Aside0 (slices_Concat_byte_byte.size (l0.take i) = slices_Concat_byte_byte.size l0) := ⟨by rw [List.take_of_length_le (by omega)]⟩
      clear hge
      rw [HS.out]
      generalize hS : slices_Concat_byte_byte.size l0 = S at *
      have HSE := Aside0.mk hS
      clear hS HS
      have h0 : ¬ ((S : Int) < 0) := by omega
      have HSL := Aside0.mk (show S < 140737488355328 from HSZ.out)
      clear HSZ HI
      go_wp2_with fail
      refine (slices_Concat_byte_byte.grow_nil S HSL.out _).mono ?_
      rintro e w1 ⟨v, rfl, ho, hb⟩
      have HO := Aside0.mk ho
      have HB := Aside0.mk hb
      clear ho hb h0
      go_wp2
      go_loopg [6, 27] l0.length (fun kq v6 v27 w' => ∃ (i : Nat), v27 = .int .i64 i ∧ Aside0 (i + kq = l0.length) ∧ Aside0 (Kd.R (Kd.int .u8) 5 w' w.heap.size (fun _ => True) v6 (l0.take i).flatten) ∧ Aside0 (Below w.heap.size w w'))
      case atStart => exact ⟨0, rfl, ⟨by omega⟩, HO, HB⟩
      case round =>
        clear HO HB
        obtain ⟨j, rfl, HJ, HO, HB⟩ := hrel
        cases gk with
        | zero =>
          have hge : ¬ j < l0.length := by have := HJ.out; omega
          have t2 : decide (j < l0.length) = false := decide_eq_false hge
          have HF : Aside0 ((l0.take j).flatten = l0.flatten) := ⟨by rw [List.take_of_length_le (by omega)]⟩
          clear hge
          go_wp2
          go_ret
          exact ⟨_, rfl, by rw [← HF.out]; exact HO.out, HB.out⟩
        | succ k1 =>
          have hlt : j < l0.length := by have := HJ.out; omega
          have t2 : decide (j < l0.length) = true := decide_eq_true hlt
          have HT := Aside0.mk (slices_Concat_byte_byte.take_size l0 j hlt)
          have HTB := Aside0.mk (slices_Concat_byte_byte.size_take l0 (j + 1))
          have HFL := Aside0.mk (slices_Concat_byte_byte.flat_len (l0.take j))
          have HFS : Aside0 ((l0.take (j + 1)).flatten = (l0.take j).flatten ++ l0[j]) := ⟨by rw [List.take_succ_eq_append_getElem hlt, List.flatten_append]; simp⟩
          obtain ⟨ad, A1, c1, ead, hcell, hl1, hi1⟩ := at_L2 HR0.out (j : Int) (by omega) (by omega)
          subst ead
          have e1 : rd_L2 l0 (j : Int) = l0[j] := by rw [rd_L2, Int.toNat_natCast, List.getD_eq_getElem?_getD, List.getElem?_eq_getElem hlt, Option.getD_some]
          rw [e1, Int.toNat_natCast] at hcell
          rw [e1] at hi1
          have HI1 := Aside0.mk hi1
          clear e1 hl1 hi1
          generalize hx : l0[j] = x at *
          clear hx
          replace hcell := (HB.out.cell (World.block_lt_of_cell? w _ hcell)).trans hcell
          have HIW := Aside0.mk (show wrap64 ((j : Int) + 1) = ((j + 1 : Nat) : Int) from by have := HLM.out; unfold wrap64; omega)
          have HAL := Aside0.mk (show (l0.take j).flatten.length + x.length < 140737488355328 from by have := HFL.out; have := HT.out; have := HTB.out; have := HSL.out; have := HSE.out; omega)
          generalize hfl : (l0.take j).flatten = y at *
          clear hfl HFL HT HTB
          go_wp2_with (first | ((with_reducible refine gate_builtin (b := .append) (xs := #[.tmp 31, .tmp 32]) rfl ?_); at_builtin; refine Kd.R_append_rows (Kd.int .u8) (w0 := w) w.heap.size rfl (.tmp 31) (.tmp 32) 22 5 (.int .u8 0) 1 rfl Try.underlying22 info5 rfl (by decide) (by omega) u6 y x _ _ _ (fun _ => True) (fun _ => False) rfl rfl ?aO ?aR (fun _ _ h => h) (fun _ h => h.elim) ?aF ?aB ?aS ?aL ?_; (case aR => exact Kd.C_below HI1.out HB.out); (case aB => exact HB.out); (case aF => exact (fun _ _ => trivial)); (case aO => exact HO.out); (case aS => exact HB.out.size); (case aL => have := HAL.out; omega); intro v146 w3 ho hb hg hat; rw [← HFS.out] at ho; have n0_ := Aside0.mk hb; have n1_ := Aside0.mk ho; clear hb ho hg hat))
          go_roundg k1
          case measure => omega
          case rel =>
            refine ⟨j + 1, ?_, ⟨by have := HJ.out; omega⟩, n1_, n0_⟩
            rw [HIW.out]
    | succ k1 =>
      have hlt : i < l0.length := by have := HI.out; omega
      have t1 : decide (i < l0.length) = true := decide_eq_true hlt
      have HT := Aside0.mk (slices_Concat_byte_byte.take_size l0 i hlt)
      have HTB := Aside0.mk (slices_Concat_byte_byte.size_take l0 (i + 1))
      obtain ⟨ad, A1, c1, ead, hcell, hl1, hi1⟩ := at_L2 HR0.out (i : Int) (by omega) (by omega)
      subst ead
      have e1 : rd_L2 l0 (i : Int) = l0[i] := by rw [rd_L2, Int.toNat_natCast, List.getD_eq_getElem?_getD, List.getElem?_eq_getElem hlt, Option.getD_some]
      rw [e1, Int.toNat_natCast] at hcell
      clear e1 hl1 hi1
      generalize hx : l0[i] = x at *
      clear hx
      generalize hS : slices_Concat_byte_byte.size (l0.take i) = S at *
      clear hS
      have HW := Aside0.mk (show wrap64 ((S : Int) + (x.length : Int)) = ((slices_Concat_byte_byte.size (l0.take (i + 1)) : Nat) : Int) from by have := HT.out; have := HTB.out; have := HSZ.out; unfold wrap64; omega)
      have HIW := Aside0.mk (show wrap64 ((i : Int) + 1) = ((i + 1 : Nat) : Int) from by have := HLM.out; unfold wrap64; omega)
      have t2 : decide (wrap64 ((S : Int) + (x.length : Int)) < 0) = false := decide_eq_false (by rw [HW.out]; omega)
      go_wp2
      go_roundg k1
      case measure => omega
      case rel =>
        refine ⟨i + 1, ?_, ?_, ⟨by have := HI.out; omega⟩, rfl⟩
        · rw [HW.out]
        · rw [HIW.out]

/-! ### blob_Together: function 17 -/
def blob_Together.l0 : Nat → List (List Int) → Int → List (List Int) → Int → Int → Option (List Int × Int)
  | 0, _, _, _, _, _ => none
  | k + 1, x0, x4, x10, x11, x12 => if x12 < x11 then (if 0 ≤ x12 then (if x12 < (x10.length : Int) then (blob_Together.l0 k x0 (wrap64 (x4 + ((rd_L2 x10 x12).length : Int))) x10 x11 (wrap64 (x12 + 1))) else (none)) else (none)) else (if x4 > 2000000 then (some (([] : List Int), 2)) else ((slices_Concat_byte_byte.f x0).bind fun t136 => (some (t136, 0))))
def blob_Together.f (k : Nat) (l0 : List (List Int)) : Option (List Int × Int) := if (l0.length : Int) > 20000 then (some (([] : List Int), 2)) else (blob_Together.l0 k l0 0 l0 (l0.length : Int) 0)
theorem blob_Together.mono_l : ∀ k, (∀ y0 y1 y2 y3 y4, LeO (blob_Together.l0 k y0 y1 y2 y3 y4) (blob_Together.l0 (k + 1) y0 y1 y2 y3 y4))
  | 0 => fun _ _ _ _ _ r h => by simp [blob_Together.l0] at h
  | k + 1 => by
    have ih0 := blob_Together.mono_l k
    · intro y0 y1 y2 y3 y4
      unfold blob_Together.l0
      repeat' first
      | (with_reducible exact ih0 _ _ _ _ _)
      | (with_reducible exact LeO.refl _)
      | (with_reducible exact LeO.none _)
      | (with_reducible refine LeO.ite ?_ ?_)
      | (with_reducible refine LeO.bind ?_ (fun _ => ?_))
      | exact ih0 _ _ _ _ _
      | exact LeO.none _
      | refine LeO.ite ?_ ?_
      | refine LeO.bind ?_ (fun _ => ?_)
theorem blob_Together.mono : ∀ a0 k, LeO (blob_Together.f k a0) (blob_Together.f (k + 1) a0) := by
  intro a0 k
  have ih0 := blob_Together.mono_l k
  unfold blob_Together.f
  repeat' first
      | (with_reducible exact ih0 _ _ _ _ _)
      | (with_reducible exact LeO.refl _)
      | (with_reducible exact LeO.none _)
      | (with_reducible refine LeO.ite ?_ ?_)
      | (with_reducible refine LeO.bind ?_ (fun _ => ?_))
      | exact ih0 _ _ _ _ _
      | exact LeO.none _
      | refine LeO.ite ?_ ?_
      | refine LeO.bind ?_ (fun _ => ?_)
set_option maxHeartbeats 8000000 in
set_option maxRecDepth 100000 in
theorem blob_Together.calls (k : Nat) (A0 : Option Addr) (c0 : Nat) (l0 : List (List Int)) (r1 : List Int) (r2 : Int) (w : World) (hr0 : Kd.C (Kd.slice 5 (Kd.int .u8)) w A0 l0.length l0) (hc0 : l0.length ≤ c0) (h : blob_Together.f k l0 = some (r1, r2)) :
    Calls Try.prog 17 #[.slice A0 l0.length c0] w fun e w' => ∃ v0_ : Value, e = .returned (.tuple #[v0_, .int .i64 r2]) ∧ Kd.R (Kd.int .u8) 5 w' w.heap.size (fun _ => True) v0_ r1 ∧ Below w.heap.size w w' := by
  have HR0 := Aside0.mk hr0
  have HC0 := Aside0.mk hc0
  clear hr0 hc0
  have HB := Aside0.mk (Below.refl w.heap.size w)
  have H : (if (l0.length : Int) > 20000 then (some (([] : List Int), 2)) else (blob_Together.l0 k l0 0 l0 (l0.length : Int) 0)) = some (r1, r2) := h
  clear h
  by_cases c2 : (l0.length : Int) > 20000
  · rw [if_pos c2] at H
    have c2b0 : decide (20000 < (l0.length : Int)) = true := decide_eq_true c2
    have c2b1 : decide (20000 < l0.length) = true := decide_eq_true (by omega)
    clear c2
    simp only [Option.some.injEq, Prod.mk.injEq] at H
    obtain ⟨rfl, rfl⟩ := H
    go_enter Try.func17, Try.ntmps17
    go_wp2
    go_ret2
    exact ⟨_, by first | rfl | (simp [errW_none, errW_some] <;> rfl) | (simp [*, errW_none, errW_some] <;> rfl), by first | exact Kd.R_nil _ _ _ _ _ | exact Kd.N_nil _ _ _ _ _ | exact Kd.V_nil _ _ _ _ _ | exact Kd.Q_nil _ _ _ _ _ | exact Kd.S_nil _ _ _ _ _, by repeat (first | (with_reducible first | exact HB.out | apply below_alloc | apply pw_below_drewN | apply below_drew1) | exact HB.out)⟩
  · rw [if_neg c2] at H
    have c2b0 : decide (20000 < (l0.length : Int)) = false := decide_eq_false c2
    have c2b1 : decide (20000 < l0.length) = false := decide_eq_false (by omega)
    clear c2
    have H' := Aside0.mk H
    clear H
    go_enter Try.func17, Try.ntmps17
    go_wp2
    go_loopg [4, 12] k (fun kq v4 v12 w' => ∃ (x4_1 : Int) (x12_1 : Int), v4 = .int .i64 x4_1 ∧ v12 = .int .i64 x12_1 ∧ Aside0 (blob_Together.l0 kq l0 x4_1 l0 (l0.length : Int) x12_1 = some (r1, r2)) ∧ Aside0 (kq ≤ k) ∧ Aside0 (Below w.heap.size w w'))
    case atStart => exact ⟨(0), (0), (by first | rfl | (simp; done) | (simp [*]; done)), (by first | rfl | (simp; done) | (simp [*]; done)), H', ⟨Nat.le_refl _⟩, ⟨by repeat (first | (with_reducible first | exact HB.out | apply below_alloc | apply pw_below_drewN | apply below_drew1) | exact HB.out)⟩⟩
    case round =>
      clear H'
      try clear c1
      try clear c2
      try clear c2b0
      try clear c2b1
      try clear p2
      obtain ⟨x4_1, x12_1, rfl, rfl, HA, HK1, HB⟩ := hrel
      cases gk with
      | zero => exact absurd HA.out (by simp [blob_Together.l0])
      | succ k1 =>
        have H := HA.out
        clear HA
        simp only [blob_Together.l0] at H
        by_cases c3 : x12_1 < (l0.length : Int)
        · rw [if_pos c3] at H
          have c3b0 : decide (x12_1 < (l0.length : Int)) = true := decide_eq_true c3
          clear c3
          by_cases c4 : 0 ≤ x12_1
          · rw [if_pos c4] at H
            have c4b0 : decide (0 ≤ x12_1) = true := decide_eq_true c4
            clear c4
            by_cases c5 : x12_1 < (l0.length : Int)
            · rw [if_pos c5] at H
              have c5b0 : decide (x12_1 < (l0.length : Int)) = true := decide_eq_true c5
              clear c5
              have H' := Aside0.mk H
              clear H
              have p135 : 0 ≤ (x12_1 : Int) := of_decide_eq_true (by first | (with_reducible assumption) | assumption)
              have q135 : x12_1 < (l0.length : Int) := of_decide_eq_true (by first | (with_reducible assumption) | assumption)
              obtain ⟨ad135, A135_0, c135_0, e135, hx135_0, hl135_0, hi135_0⟩ := at_L2 HR0.out x12_1 p135 q135
              cases e135
              replace hx135_0 := (HB.out.cell (World.block_lt_of_cell? w _ hx135_0)).trans hx135_0
              have HR135_0 := Aside0.mk hi135_0
              have HC135_0 := Aside0.mk hl135_0
              clear hi135_0 hl135_0
              replace p135 := eq_true p135
              replace q135 := eq_true q135
              go_wp2
              go_roundg k1
              case measure => have := HK1.out; omega
              case rel => exact ⟨(wrap64 (x4_1 + ((rd_L2 l0 x12_1).length : Int))), (wrap64 (x12_1 + 1)), (by first | rfl | (simp; done) | (simp [*]; done)), (by first | rfl | (simp; done) | (simp [*]; done)), H', ⟨by have := HK1.out; omega⟩, ⟨by repeat (first | (with_reducible first | exact HB.out | apply below_alloc | apply pw_below_drewN | apply below_drew1) | exact HB.out)⟩⟩
            · rw [if_neg c5] at H
              exact absurd H (by simp)
          · rw [if_neg c4] at H
            exact absurd H (by simp)
        · rw [if_neg c3] at H
          have c3b0 : decide (x12_1 < (l0.length : Int)) = false := decide_eq_false c3
          clear c3
          by_cases c6 : x4_1 > 2000000
          · rw [if_pos c6] at H
            have c6b0 : decide (2000000 < x4_1) = true := decide_eq_true c6
            clear c6
            simp only [Option.some.injEq, Prod.mk.injEq] at H
            obtain ⟨rfl, rfl⟩ := H
            go_wp2
            go_ret2
            exact ⟨_, by first | rfl | (simp [errW_none, errW_some] <;> rfl) | (simp [*, errW_none, errW_some] <;> rfl), by first | exact Kd.R_nil _ _ _ _ _ | exact Kd.N_nil _ _ _ _ _ | exact Kd.V_nil _ _ _ _ _ | exact Kd.Q_nil _ _ _ _ _ | exact Kd.S_nil _ _ _ _ _, by repeat (first | (with_reducible first | exact HB.out | apply below_alloc | apply pw_below_drewN | apply below_drew1) | exact HB.out)⟩
          · rw [if_neg c6] at H
            have c6b0 : decide (2000000 < x4_1) = false := decide_eq_false c6
            clear c6
            replace H := Option.bind_eq_some_iff.mp H
            obtain ⟨t136, A70, H⟩ := H
            replace H : (some (t136, 0)) = some (r1, r2) := H
            have A7 := Aside0.mk A70
            clear A70
            simp only [Option.some.injEq, Prod.mk.injEq] at H
            obtain ⟨rfl, rfl⟩ := H
            go_wp2_with (first | ((with_reducible refine gate_callee (f := 26) rfl ?_); refine goesL_ (some 24) rfl rfl Try.func26 (by kernel_rfl) rfl #[.slice A0 l0.length c0] rfl (by (try simp only [List.map_toArray, List.map_cons, List.map_nil]); first | done | rfl | (simp only [List.length_drop, List.length_take]; rfl)) ?_; (with_reducible refine (slices_Concat_byte_byte.calls _ _ l0 t136 _ ?side1 ?side2 A7.out).mono ?_); (case side1 => repeat (first | exact (Kd.C_below HR0.out HB.out) | (with_reducible refine Kd.C_alloc ?_ _) | (with_reducible refine Kd.C_drewN ?_ _) | (with_reducible refine Kd.C_drew ?_))); (case side2 => exact HC0.out); rintro e w8 ⟨v137, rfl, ho0, hb⟩; refine ⟨_, rfl, ?_⟩; have n0_ := Aside0.mk (Kd.R_lower ho0 (below_size (by repeat (first | (with_reducible first | exact HB.out | apply below_alloc | apply pw_below_drewN | apply below_drew1) | exact HB.out)))); have n1_ := Aside0.mk (below_step (by repeat (first | (with_reducible first | exact HB.out | apply below_alloc | apply pw_below_drewN | apply below_drew1) | exact HB.out)) hb); clear HB; have HO138 := n0_; have HB := n1_; clear n0_ n1_; (try clear hb); (try clear hb2); (try clear hk); (try clear hi); (try clear ho0)))
            go_ret2
            exact ⟨_, by first | rfl | (simp [errW_none, errW_some] <;> rfl) | (simp [*, errW_none, errW_some] <;> rfl), by (with_reducible repeat (first | apply Kd.R_alloc | apply Kd.R_drewN | apply Kd.R_drew)); exact HO138.out, by repeat (first | (with_reducible first | exact HB.out | apply below_alloc | apply pw_below_drewN | apply below_drew1) | exact HB.out)⟩

/-! ### bytes_Equal: function 18 -/
def bytes_Equal.f (l0 : List Int) (l1 : List Int) : Option (Bool) := some ((strOfNums l0).toList == (strOfNums l1).toList)
set_option maxHeartbeats 8000000 in
set_option maxRecDepth 100000 in
theorem bytes_Equal.calls (A0 : Option Addr) (c0 : Nat) (l0 : List Int) (A1 : Option Addr) (c1 : Nat) (l1 : List Int) (r : Bool) (w : World) (hr0 : Kd.C (Kd.int .u8) w A0 l0.length l0) (hc0 : l0.length ≤ c0) (hr1 : Kd.C (Kd.int .u8) w A1 l1.length l1) (hc1 : l1.length ≤ c1) (h : bytes_Equal.f l0 l1 = some r) :
    Calls Try.prog 18 #[.slice A0 l0.length c0, .slice A1 l1.length c1] w fun e w' => e = .returned (.bool r) ∧ Drawn0 w w' := by
  have HR0 := Aside0.mk hr0
  have HC0 := Aside0.mk hc0
  clear hr0 hc0
  have HR1 := Aside0.mk hr1
  have HC1 := Aside0.mk hc1
  clear hr1 hc1
  have H : (some ((strOfNums l0).toList == (strOfNums l1).toList)) = some r := h
  clear h
  obtain rfl := Option.some.inj H
  have hcv3 := Kd.C_string (P := Try.prog) (A := A0) (c := c0) Try.underlying22 Try.underlying5 Try.underlying9 HR0.out
  have hcv4 := Kd.C_string (P := Try.prog) (A := A1) (c := c1) Try.underlying22 Try.underlying5 Try.underlying9 HR1.out
  go_enter Try.func18, Try.ntmps18
  go_wp2
  go_ret
  exact ⟨by first | rfl | (simp; done) | (simp [*]; done), by repeat (first | exact Drawn0.refl _ | apply Drawn0.step)⟩

/-! ### smithyardref1_CopyBytes: function 27 -/
def smithyardref1_CopyBytes.f (l0 : List Int) : Option (List Int) := if ([] : List Int).length + l0.length < 140737488355328 then (some (([] : List Int) ++ l0)) else (none)
set_option maxHeartbeats 8000000 in
set_option maxRecDepth 100000 in
theorem smithyardref1_CopyBytes.calls (A0 : Option Addr) (c0 : Nat) (l0 : List Int) (r : List Int) (w : World) (hr0 : Kd.C (Kd.int .u8) w A0 l0.length l0) (hc0 : l0.length ≤ c0) (h : smithyardref1_CopyBytes.f l0 = some r) :
    Calls Try.prog 27 #[.slice A0 l0.length c0] w fun e w' => ∃ v0_ : Value, e = .returned (v0_) ∧ Kd.R (Kd.int .u8) 5 w' w.heap.size (fun _ => True) v0_ r ∧ Below w.heap.size w w' := by
  have HR0 := Aside0.mk hr0
  have HC0 := Aside0.mk hc0
  clear hr0 hc0
  have HB := Aside0.mk (Below.refl w.heap.size w)
  have H : (if ([] : List Int).length + l0.length < 140737488355328 then (some (([] : List Int) ++ l0)) else (none)) = some r := h
  clear h
  by_cases c2 : ([] : List Int).length + l0.length < 140737488355328
  · rw [if_pos c2] at H
    have LMc2 := Aside0.mk c2
    clear c2
    obtain ⟨y139, hy139⟩ : ∃ y_ : List Int, y_ = (([] : List Int) ++ l0) := ⟨_, rfl⟩
    replace H : (some y139) = some r := by first | (rw [hy139]; with_reducible exact H) | (have H2_ := (Option.bind_some _ _).symm.trans H; rw [hy139]; with_reducible exact H2_) | (have H2_ := (Option.bind_some _ _).symm.trans H; with_reducible exact H2_) | with_reducible exact H | (rw [hy139]; exact H) | exact H
    have Ny139 := Aside0.mk hy139
    clear hy139
    obtain rfl := Option.some.inj H
    go_enter Try.func27, Try.ntmps27
    go_wp2_with (first | ((with_reducible refine gate_builtin (b := .append) (xs := #[.tmp 4, .tmp 5]) rfl ?_); at_builtin; refine Kd.R_append_rows (Kd.int .u8) (w0 := w) w.heap.size rfl (.tmp 4) (.tmp 5) 22 5 (.int .u8 0) 1 rfl Try.underlying22 info5 rfl (by decide) (by omega) (.slice none 0 0) ([] : List Int) l0 _ _ _ (fun _ => True) (fun _ => False) rfl rfl ?aO ?aR (fun _ _ h => h) (fun _ h => h.elim) ?aF ?aB ?aS ?aL ?_; (case aR => repeat (first | exact HR0.out | (with_reducible refine Kd.C_alloc ?_ _) | (with_reducible refine Kd.C_drewN ?_ _) | (with_reducible refine Kd.C_drew ?_))); (case aB => exact (by repeat (first | (with_reducible first | exact HB.out | apply below_alloc | apply pw_below_drewN | apply below_drew1) | exact HB.out))); (case aF => exact (fun _ _ => trivial)); (case aO => exact ((Kd.R_nil _ _ _ _ (fun _ => True)))); (case aS => exact (below_size (by repeat (first | (with_reducible first | exact HB.out | apply below_alloc | apply pw_below_drewN | apply below_drew1) | exact HB.out)))); (case aL => have := LMc2.out; omega); intro v140 w3 ho hb hg hat; rw [← Ny139.out] at ho; have n0_ := Aside0.mk (hb); have n1_ := Aside0.mk (ho); clear HB; have HB := n0_; have HO141 := n1_; clear n0_ n1_; clear ho hb hg hat))
    go_ret
    exact ⟨_, by first | rfl | (simp [errW_none, errW_some] <;> rfl) | (simp [*, errW_none, errW_some] <;> rfl), by (with_reducible repeat (first | apply Kd.R_alloc | apply Kd.R_drewN | apply Kd.R_drew)); exact HO141.out, by repeat (first | (with_reducible first | exact HB.out | apply below_alloc | apply pw_below_drewN | apply below_drew1) | exact HB.out)⟩
  · rw [if_neg c2] at H
    exact absurd H (by simp)

/-! ### smithyardref1_CopyPieces: function 19 -/
def smithyardref1_CopyPieces.l0 : Nat → List (List Int) → List (List Int) → Int → Option ((List (List Int)))
  | 0, _, _, _ => none
  | k + 1, x0, x3, x4 => if x4 < (x0.length : Int) then (if 0 ≤ x4 then ((smithyardref1_CopyBytes.f (rd_L2 x0 x4)).bind fun t143 => (if x3.length < 5864062014805 then (smithyardref1_CopyPieces.l0 k x0 (x3 ++ [t143]) (wrap64 (x4 + 1))) else (none))) else (none)) else (some x3)
def smithyardref1_CopyPieces.f (k : Nat) (l0 : List (List Int)) : Option ((List (List Int))) := smithyardref1_CopyPieces.l0 k l0 ([] : List (List Int)) 0
theorem smithyardref1_CopyPieces.mono_l : ∀ k, (∀ y0 y1 y2, LeO (smithyardref1_CopyPieces.l0 k y0 y1 y2) (smithyardref1_CopyPieces.l0 (k + 1) y0 y1 y2))
  | 0 => fun _ _ _ r h => by simp [smithyardref1_CopyPieces.l0] at h
  | k + 1 => by
    have ih0 := smithyardref1_CopyPieces.mono_l k
    · intro y0 y1 y2
      unfold smithyardref1_CopyPieces.l0
      repeat' first
      | (with_reducible exact ih0 _ _ _)
      | (with_reducible exact LeO.refl _)
      | (with_reducible exact LeO.none _)
      | (with_reducible refine LeO.ite ?_ ?_)
      | (with_reducible refine LeO.bind ?_ (fun _ => ?_))
      | exact ih0 _ _ _
      | exact LeO.none _
      | refine LeO.ite ?_ ?_
      | refine LeO.bind ?_ (fun _ => ?_)
theorem smithyardref1_CopyPieces.mono : ∀ a0 k, LeO (smithyardref1_CopyPieces.f k a0) (smithyardref1_CopyPieces.f (k + 1) a0) := by
  intro a0 k
  have ih0 := smithyardref1_CopyPieces.mono_l k
  unfold smithyardref1_CopyPieces.f
  repeat' first
      | (with_reducible exact ih0 _ _ _)
      | (with_reducible exact LeO.refl _)
      | (with_reducible exact LeO.none _)
      | (with_reducible refine LeO.ite ?_ ?_)
      | (with_reducible refine LeO.bind ?_ (fun _ => ?_))
      | exact ih0 _ _ _
      | exact LeO.none _
      | refine LeO.ite ?_ ?_
      | refine LeO.bind ?_ (fun _ => ?_)
set_option maxHeartbeats 8000000 in
set_option maxRecDepth 100000 in
theorem smithyardref1_CopyPieces.calls (k : Nat) (A0 : Option Addr) (c0 : Nat) (l0 : List (List Int)) (r : List (List Int)) (w : World) (hr0 : Kd.C (Kd.slice 5 (Kd.int .u8)) w A0 l0.length l0) (hc0 : l0.length ≤ c0) (h : smithyardref1_CopyPieces.f k l0 = some r) :
    Calls Try.prog 19 #[.slice A0 l0.length c0] w fun e w' => ∃ v0_ : Value, e = .returned (v0_) ∧ Kd.S (Kd.slice 5 (Kd.int .u8)) 22 w' w.heap.size (fun _ => True) v0_ r ∧ Below w.heap.size w w' := by
  have HR0 := Aside0.mk hr0
  have HC0 := Aside0.mk hc0
  clear hr0 hc0
  have HB := Aside0.mk (Below.refl w.heap.size w)
  have H : (smithyardref1_CopyPieces.l0 k l0 ([] : List (List Int)) 0) = some r := h
  clear h
  have H' := Aside0.mk H
  clear H
  go_enter Try.func19, Try.ntmps19
  go_wp2
  go_loopg [3, 4] k (fun kq v3 v4 w' => ∃ (x3_1 : List (List Int)) (x4_1 : Int), v4 = .int .i64 x4_1 ∧ Aside0 (smithyardref1_CopyPieces.l0 kq l0 x3_1 x4_1 = some r) ∧ Aside0 (kq ≤ k) ∧ Aside0 (Kd.S (Kd.slice 5 (Kd.int .u8)) 22 w' w.heap.size (fun _ => True) v3 x3_1) ∧ Aside0 (Below w.heap.size w w'))
  case atStart => exact ⟨(([] : List (List Int))), (0), (by first | rfl | (simp; done) | (simp [*]; done)), H', ⟨Nat.le_refl _⟩, ⟨by first | exact Kd.S_nil _ _ _ _ _ | exact Kd.N_nil _ _ _ _ _ | exact Kd.V_nil _ _ _ _ _ | exact Kd.Q_nil _ _ _ _ _ | exact Kd.R_nil _ _ _ _ _⟩, ⟨by repeat (first | (with_reducible first | exact HB.out | apply below_alloc | apply pw_below_drewN | apply below_drew1) | exact HB.out)⟩⟩
  case round =>
    clear H'
    try clear c1
    obtain ⟨x3_1, x4_1, rfl, HA, HK1, HO_3, HB⟩ := hrel
    cases gk with
    | zero => exact absurd HA.out (by simp [smithyardref1_CopyPieces.l0])
    | succ k1 =>
      have H := HA.out
      clear HA
      simp only [smithyardref1_CopyPieces.l0] at H
      by_cases c2 : x4_1 < (l0.length : Int)
      · rw [if_pos c2] at H
        have c2b0 : decide (x4_1 < (l0.length : Int)) = true := decide_eq_true c2
        clear c2
        by_cases c3 : 0 ≤ x4_1
        · rw [if_pos c3] at H
          have c3b0 : decide (0 ≤ x4_1) = true := decide_eq_true c3
          clear c3
          replace H := Option.bind_eq_some_iff.mp H
          obtain ⟨t143, A40, H⟩ := H
          replace H : (if x3_1.length < 5864062014805 then (smithyardref1_CopyPieces.l0 k1 l0 (x3_1 ++ [t143]) (wrap64 (x4_1 + 1))) else (none)) = some r := H
          have A4 := Aside0.mk A40
          clear A40
          by_cases c5 : x3_1.length < 5864062014805
          · rw [if_pos c5] at H
            have LMc5 := Aside0.mk c5
            clear c5
            obtain ⟨y146, hy146⟩ : ∃ y_ : List (List Int), y_ = (x3_1 ++ [t143]) := ⟨_, rfl⟩
            replace H : (smithyardref1_CopyPieces.l0 k1 l0 y146 (wrap64 (x4_1 + 1))) = some r := by first | (rw [hy146]; with_reducible exact H) | (have H2_ := (Option.bind_some _ _).symm.trans H; rw [hy146]; with_reducible exact H2_) | (have H2_ := (Option.bind_some _ _).symm.trans H; with_reducible exact H2_) | with_reducible exact H | (rw [hy146]; exact H) | exact H
            have Ny146 := Aside0.mk hy146
            clear hy146
            have H' := Aside0.mk H
            clear H
            have p142 : 0 ≤ (x4_1 : Int) := of_decide_eq_true (by first | (with_reducible assumption) | assumption)
            have q142 : x4_1 < (l0.length : Int) := of_decide_eq_true (by first | (with_reducible assumption) | assumption)
            obtain ⟨ad142, A142_0, c142_0, e142, hx142_0, hl142_0, hi142_0⟩ := at_L2 HR0.out x4_1 p142 q142
            cases e142
            replace hx142_0 := (HB.out.cell (World.block_lt_of_cell? w _ hx142_0)).trans hx142_0
            have HR142_0 := Aside0.mk hi142_0
            have HC142_0 := Aside0.mk hl142_0
            clear hi142_0 hl142_0
            replace p142 := eq_true p142
            replace q142 := eq_true q142
            go_wp2_with (first | ((with_reducible refine gate_callee (f := 27) rfl ?_); refine goesL_ (some 16) rfl rfl Try.func27 (by kernel_rfl) rfl #[.slice A142_0 (rd_L2 l0 x4_1).length c142_0] rfl (by (try simp only [List.map_toArray, List.map_cons, List.map_nil]); first | done | rfl | (simp only [List.length_drop, List.length_take]; rfl)) ?_; (with_reducible refine (smithyardref1_CopyBytes.calls _ _ (rd_L2 l0 x4_1) t143 _ ?side1 ?side2 A4.out).mono ?_); (case side1 => repeat (first | exact (Kd.C_below HR142_0.out HB.out) | (with_reducible refine Kd.C_alloc ?_ _) | (with_reducible refine Kd.C_drewN ?_ _) | (with_reducible refine Kd.C_drew ?_))); (case side2 => exact HC142_0.out); rintro e w6 ⟨v144, rfl, ho0, hb⟩; refine ⟨_, rfl, ?_⟩; have n0_ := Aside0.mk (Kd.S_elder' (by (with_reducible repeat (first | apply Kd.S_alloc | apply Kd.S_drewN | apply Kd.S_drew)); exact HO_3.out) (Kd.R_base ho0) hb); have n1_ := Aside0.mk (Kd.R_lower ho0 (below_size (by repeat (first | (with_reducible first | exact HB.out | apply below_alloc | apply pw_below_drewN | apply below_drew1) | exact HB.out)))); have n2_ := Aside0.mk (below_step (by repeat (first | (with_reducible first | exact HB.out | apply below_alloc | apply pw_below_drewN | apply below_drew1) | exact HB.out)) hb); clear HO_3; clear HB; have HO_3 := n0_; have HO145 := n1_; have HB := n2_; clear n0_ n1_ n2_; (try clear hb); (try clear hb2); (try clear hk); (try clear hi); (try clear ho0); obtain ⟨Ao8, co8, eo8⟩ := Kd.R_slice HO145.out; subst eo8) | ((with_reducible refine gate_builtin (b := .append) (xs := #[.tmp 11, .tmp 17]) rfl ?_); at_builtin; refine Kd.S_append (Kd.slice 5 (Kd.int .u8)) (w0 := w) w.heap.size rfl (.tmp 11) (.tmp 17) 37 22 (.slice none 0 0) 24 rfl Try.underlying37 info22 rfl (by decide) (by omega) u3 x3_1 t143 [.slice Ao8 t143.length co8] (fun _ => True) (fun k_ => some k_ = (.slice Ao8 t143.length co8 : Value).ownBlock) rfl rfl ?aP (fun k_ hk_ => ((Kd.R_mono (ok' := fun k_ => ((fun _ => True)) k_ ∧ some k_ ≠ (u3 : Value).ownBlock) (Kd.R_apart' (HO145.out) (Kd.S_typed HO_3.out) (by decide)) (fun k_ hk => ⟨trivial, hk.2⟩))).1 k_ hk_.symm) ?aF ?aO ?aB ?aS ?aL ?_; (case aP => exact Kd.M_row (Kd.R_mono (Kd.R_tight rfl (Kd.R_mono (ok' := fun k_ => ((fun _ => True)) k_ ∧ some k_ ≠ (u3 : Value).ownBlock) (Kd.R_apart' (HO145.out) (Kd.S_typed HO_3.out) (by decide)) (fun k_ hk => ⟨trivial, hk.2⟩))) (fun _ h_ => h_))); (case aB => exact (by repeat (first | (with_reducible first | exact HB.out | apply below_alloc | apply pw_below_drewN | apply below_drew1) | exact HB.out))); (case aF => exact (fun _ _ => trivial)); (case aO => exact (by (with_reducible repeat (first | apply Kd.S_alloc | apply Kd.S_drewN | apply Kd.S_drew)); exact Kd.S_mono HO_3.out (fun k_ hk => ⟨trivial, fun e_ => hk.2 e_⟩))); (case aS => exact (below_size (by repeat (first | (with_reducible first | exact HB.out | apply below_alloc | apply pw_below_drewN | apply below_drew1) | exact HB.out)))); (case aL => have := LMc5.out; omega); intro v147 w7 ho hb hg hat; rw [← Ny146.out] at ho; have n0_ := Aside0.mk (hb); have n1_ := Aside0.mk (ho); clear HB; clear HO_3; clear HO145; have HB := n0_; have HO148 := n1_; clear n0_ n1_; clear ho hb hg hat))
            go_roundg k1
            case measure => have := HK1.out; omega
            case rel => exact ⟨(y146), (wrap64 (x4_1 + 1)), (by first | rfl | (simp; done) | (simp [*]; done)), H', ⟨by have := HK1.out; omega⟩, ⟨by (with_reducible repeat (first | apply Kd.S_alloc | apply Kd.S_drewN | apply Kd.S_drew)); exact HO148.out⟩, ⟨by repeat (first | (with_reducible first | exact HB.out | apply below_alloc | apply pw_below_drewN | apply below_drew1) | exact HB.out)⟩⟩
          · rw [if_neg c5] at H
            exact absurd H (by simp)
        · rw [if_neg c3] at H
          exact absurd H (by simp)
      · rw [if_neg c2] at H
        have c2b0 : decide (x4_1 < (l0.length : Int)) = false := decide_eq_false c2
        clear c2
        obtain rfl := Option.some.inj H
        go_wp2
        go_ret
        exact ⟨_, by first | rfl | (simp [errW_none, errW_some] <;> rfl) | (simp [*, errW_none, errW_some] <;> rfl), by (with_reducible repeat (first | apply Kd.S_alloc | apply Kd.S_drewN | apply Kd.S_drew)); exact HO_3.out, by repeat (first | (with_reducible first | exact HB.out | apply below_alloc | apply pw_below_drewN | apply below_drew1) | exact HB.out)⟩

end Go.Proofs.Ytjdfbpjbobmgdaa.QTogether
