/- Pieces: what the program's cut computes, as one plain function: where the bytes are at most 2000000, least, bits and most in their ranges. -/
import Derived.Test.YtjdfbpjbobmgdaaQTogether
import Derived.Test.YtjdfbpjbobmgdaaBase
set_option linter.unusedSimpArgs false
namespace Go.Proofs.Ytjdfbpjbobmgdaa.PureTogether
open Go.RowKit Go.Proofs.Ytjdfbpjbobmgdaa.QTogether Go.Proofs.YtjdfbpjbobmgdaaW.PrintWords Go.Proofs.YtjdfbpjbobmgdaaW.PrintLast Go.Proofs.YtjdfbpjbobmgdaaW.PrintMore Go.Proofs.Ytjdfbpjbobmgdaa.Pure

/-! ### the rolling number -/
def gsum (l : List Int) : Int := l.foldl (fun h c => h * 31 + c) 0
def win (b : List Int) (p : Nat) : List Int := (b.take p).drop (p - 16)
def roll (b : List Int) (p : Nat) : Int := gsum (win b p) % 4294967296
theorem roll_range (b : List Int) (p : Nat) : 0 ≤ roll b p ∧ roll b p < 4294967296 := ⟨Int.emod_nonneg _ (by decide), Int.emod_lt_of_pos _ (by decide)⟩
theorem gsum_snoc (l : List Int) (x : Int) : gsum (l ++ [x]) = gsum l * 31 + x := by simp [gsum, List.foldl_append]
theorem gfold (l : List Int) : ∀ h : Int, l.foldl (fun h c => h * 31 + c) h = h * 31 ^ l.length + gsum l := by
  induction l with
  | nil => intro h; simp [gsum]
  | cons a l ih =>
    intro h
    have e : gsum (a :: l) = (0 * 31 + a) * 31 ^ l.length + gsum l := by
      show List.foldl _ _ (a :: l) = _
      rw [List.foldl_cons, ih]
    rw [List.foldl_cons, ih, e, List.length_cons, Int.pow_succ]
    have : (h * 31 + a) * 31 ^ l.length = h * (31 ^ l.length * 31) + (0 * 31 + a) * 31 ^ l.length := by
      rw [Int.add_mul, Int.mul_assoc, Int.mul_comm 31 (31 ^ l.length)]
      simp
    omega
theorem gsum_cons (y : Int) (l : List Int) : gsum (y :: l) = y * 31 ^ l.length + gsum l := by
  rw [gsum, List.foldl_cons, gfold]
  simp
theorem win_low (b : List Int) (p : Nat) (h : p < 16) (hp : p < b.length) : win b (p + 1) = win b p ++ [b[p]] := by
  unfold win
  rw [show p + 1 - 16 = 0 by omega, show p - 16 = 0 by omega, List.drop_zero, List.drop_zero, List.take_succ_eq_append_getElem hp]
theorem win_high (b : List Int) (p : Nat) (h : 16 ≤ p) (hp : p < b.length) : ∃ w, w.length = 15 ∧ win b p = b[p - 16] :: w ∧ win b (p + 1) = w ++ [b[p]] := by
  refine ⟨(b.take p).drop (p - 15), by rw [List.length_drop, List.length_take]; omega, ?_, ?_⟩
  · unfold win
    have hl : p - 16 < (b.take p).length := by rw [List.length_take]; omega
    rw [List.drop_eq_getElem_cons hl, List.getElem_take]
    rw [show p - 16 + 1 = p - 15 by omega]
  · unfold win
    rw [List.take_succ_eq_append_getElem hp, List.drop_append_of_le_length (by rw [List.length_take]; omega), show p + 1 - 16 = p - 15 by omega]
theorem roll_low (b : List Int) (p : Nat) (h : p < 16) (hp : p < b.length) : (31 * roll b p + rd b (p : Int)) % 4294967296 = roll b (p + 1) := by
  rw [rd_lt b p hp]
  unfold roll
  rw [win_low b p h hp, gsum_snoc]
  omega
theorem roll_high (b : List Int) (p : Nat) (h : 16 ≤ p) (hp : p < b.length) :
    (31 * ((roll b p - 3784433119 * (rd b ((p : Int) - 16) % 4294967296)) % 4294967296) + rd b (p : Int)) % 4294967296 = roll b (p + 1) := by
  rw [rd_lt b p hp, show ((p : Int) - 16) = ((p - 16 : Nat) : Int) by omega, rd_lt b (p - 16) (by omega)]
  obtain ⟨w, hw, h1, h2⟩ := win_high b p h hp
  unfold roll
  rw [h1, h2, gsum_snoc, gsum_cons, hw]
  generalize gsum w = G
  generalize b[p - 16] = y
  generalize b[p] = x
  rw [show (31 ^ 15 : Int) = 23465261991844685929951 by decide +kernel]
  omega
theorem roll_zero (b : List Int) : roll b 0 = 0 := by simp [roll, win, gsum]

/-! ### the pieces -/
def rest (b : List Int) (least most B : Int) : Nat → Int → List Int
  | 0, _ => []
  | d + 1, s => if ((b.length : Int) - d) - s = most ∨ d = 0 ∨ (least ≤ ((b.length : Int) - d) - s ∧ roll b (b.length - d) % B = 0) then (((b.length : Int) - d) - s) :: rest b least most B d ((b.length : Int) - d) else rest b least most B d s
def pieces (b : List Int) (least bits most : Int) : List Int := rest b least most (2 ^ bits.toNat) b.length 0

theorem shl_one (s : Int) (h0 : 0 ≤ s) (h1 : s ≤ 20) : shl .u32 1 s = 2 ^ s.toNat ∧ 1 ≤ (2 : Int) ^ s.toNat ∧ (2 : Int) ^ s.toNat ≤ 1048576 := by
  have : s = 0 ∨ s = 1 ∨ s = 2 ∨ s = 3 ∨ s = 4 ∨ s = 5 ∨ s = 6 ∨ s = 7 ∨ s = 8 ∨ s = 9 ∨ s = 10 ∨ s = 11 ∨ s = 12 ∨ s = 13 ∨ s = 14 ∨ s = 15 ∨ s = 16 ∨ s = 17 ∨ s = 18 ∨ s = 19 ∨ s = 20 := by omega
  rcases this with h | h | h | h | h | h | h | h | h | h | h | h | h | h | h | h | h | h | h | h | h <;> subst h <;> decide +kernel
theorem wraps_u32 (n : Int) (h₀ : 0 ≤ n) (h₁ : n < 2 ^ 32) : IntKind.u32.wrap n = n := by rw [IntKind.wrap_u32]; omega
theorem mask (n s : Int) (h0 : 0 ≤ s) (h1 : s ≤ 20) (hn0 : 0 ≤ n) (hn1 : n < 4294967296) : Go.bits .and .u32 n ((shl .u32 1 s - 1) % 4294967296) = n % 2 ^ s.toNat := by
  obtain ⟨e, p0, p1⟩ := shl_one s h0 h1
  rw [e, Int.emod_eq_of_lt (by omega) (by omega)]
  exact bits_mask .u32 32 (by decide) wraps_u32 s.toNat (by omega) n hn0 (by omega)

section
variable (b : List Int) (least bits most : Int) (hb : b.length ≤ 2000000) (hl1 : 1 ≤ least) (hl2 : least ≤ most) (hb1 : 0 ≤ bits) (hb2 : bits ≤ 20) (hm : most ≤ 100000)
include hb hl1 hl2 hb1 hb2 hm

theorem cut_l1 (d : Nat) : ∀ (p : Nat) (out : List Int) (s : Int), p + d = b.length → 0 ≤ s → s ≤ p → p - s < most → out.length ≤ p →
    Ev (fun k => blob_cut.l1 k b least bits most 3784433119 out (roll b p) s b b.length p) (out ++ (if d = 0 then (if s < b.length then [(b.length : Int) - s] else []) else rest b least most (2 ^ bits.toNat) d s)) := by
  induction d with
  | zero =>
    intro p out s hp h0 h1 h2 h3
    rw [if_pos rfl]
    by_cases hs : s < b.length
    · rw [if_pos hs]
      refine Ev.to (Ev.now _) fun k => ?_
      simp (disch := omega) only [blob_cut.l1, if_pos, if_neg, w64]
    · rw [if_neg hs, List.append_nil]
      refine Ev.to (Ev.now _) fun k => ?_
      simp (disch := omega) only [blob_cut.l1, if_neg]
  | succ d ih =>
    intro p out s hp h0 h1 h2 h3
    rw [if_neg (by omega)]
    have hlt : p < b.length := by omega
    have hd : b.length - d = p + 1 := by omega
    have hdi : (b.length : Int) - d = (p : Int) + 1 := by omega
    have hr := roll_range b (p + 1)
    -- one step
    have hstep : ∀ k, blob_cut.l1 (k + 1) b least bits most 3784433119 out (roll b p) s b b.length p =
        if (p : Int) + 1 - s = most ∨ (least ≤ (p : Int) + 1 - s ∧ roll b (p + 1) % 2 ^ bits.toNat = 0) then
          blob_cut.l1 k b least bits most 3784433119 (out ++ [(p : Int) + 1 - s]) (roll b (p + 1)) ((p : Int) + 1) b b.length ((p : Int) + 1)
        else blob_cut.l1 k b least bits most 3784433119 out (roll b (p + 1)) s b b.length ((p : Int) + 1) := by
      intro k
      by_cases c16 : 16 ≤ p
      · have e := roll_high b p c16 hlt
        by_cases c1 : least ≤ (p : Int) + 1 - s
        · by_cases c2 : roll b (p + 1) % 2 ^ bits.toNat = 0
          · rw [if_pos (.inr ⟨c1, c2⟩)]
            simp (disch := omega) only [blob_cut.l1, if_pos, w64, e, mask]
          · by_cases c3 : (p : Int) + 1 - s = most
            · rw [if_pos (.inl c3)]
              simp (disch := omega) only [blob_cut.l1, if_pos, w64, e, mask, if_neg c2]
            · rw [if_neg (by rintro (h | h); exact c3 h; exact c2 h.2)]
              simp (disch := omega) only [blob_cut.l1, if_pos, if_neg, w64, e, mask, if_neg c2]
        · rw [if_neg (by omega)]
          simp (disch := omega) only [blob_cut.l1, if_pos, if_neg, w64, e]
      · have e := roll_low b p (by omega) hlt
        by_cases c1 : least ≤ (p : Int) + 1 - s
        · by_cases c2 : roll b (p + 1) % 2 ^ bits.toNat = 0
          · rw [if_pos (.inr ⟨c1, c2⟩)]
            simp (disch := omega) only [blob_cut.l1, if_pos, if_neg, w64, e, mask]
          · by_cases c3 : (p : Int) + 1 - s = most
            · rw [if_pos (.inl c3)]
              simp (disch := omega) only [blob_cut.l1, if_pos, if_neg, w64, e, mask, if_neg c2]
            · rw [if_neg (by rintro (h | h); exact c3 h; exact c2 h.2)]
              simp (disch := omega) only [blob_cut.l1, if_pos, if_neg, w64, e, mask, if_neg c2]
        · rw [if_neg (by omega)]
          simp (disch := omega) only [blob_cut.l1, if_pos, if_neg, w64, e]
    refine Ev.to (f := fun k => if (p : Int) + 1 - s = most ∨ (least ≤ (p : Int) + 1 - s ∧ roll b (p + 1) % 2 ^ bits.toNat = 0) then _ else _) ?_ hstep
    refine Ev.ite (fun c => ?_) (fun c => ?_)
    · have key := ih (p + 1) (out ++ [(p : Int) + 1 - s]) ((p : Int) + 1) (by omega) (by omega) (by omega) (by omega) (by simp; omega)
      have e : rest b least most (2 ^ bits.toNat) (d + 1) s = ((p : Int) + 1 - s) :: rest b least most (2 ^ bits.toNat) d ((p : Int) + 1) := by
        rw [rest, hd, hdi, if_pos (by rcases c with c | c; exact .inl c; exact .inr (.inr c))]
      rw [e]
      have e2 : (if d = 0 then (if (p : Int) + 1 < b.length then [(b.length : Int) - ((p : Int) + 1)] else []) else rest b least most (2 ^ bits.toNat) d ((p : Int) + 1)) = rest b least most (2 ^ bits.toNat) d ((p : Int) + 1) := by
        by_cases hz : d = 0
        · subst hz
          rw [if_pos rfl, if_neg (by omega), rest]
        · rw [if_neg hz]
      rw [e2, List.append_assoc] at key
      exact key
    · have key := ih (p + 1) out s (by omega) (by omega) (by omega) (by omega) (by omega)
      have e2 : (if d = 0 then (if s < b.length then [(b.length : Int) - s] else []) else rest b least most (2 ^ bits.toNat) d s) = rest b least most (2 ^ bits.toNat) (d + 1) s := by
        by_cases hz : d = 0
        · subst hz
          rw [if_pos rfl, if_pos (by omega), rest, if_pos (.inr (.inl rfl)), rest]
          simp
        · rw [if_neg hz, rest, hd, hdi, if_neg]
          rintro (h | h | h)
          · exact c (.inl h)
          · exact hz h
          · exact c (.inr h)
      rw [e2] at key
      exact key

def pw : Nat → Int → Int
  | 0, p => p
  | n + 1, p => pw n (p * 31 % 4294967296)
omit hb hl1 hl2 hb1 hb2 hm in
theorem cut_l0 (r : List Int) (d : Nat) : ∀ (i : Nat) (p : Int), i + d = 15 → Ev (fun k => blob_cut.l1 k b least bits most (pw d p) [] 0 0 b b.length 0) r → Ev (fun k => blob_cut.l0 k b least bits most p i) r := by
  induction d with
  | zero =>
    intro i p hi key
    refine Ev.to key fun k => ?_
    simp (disch := omega) only [blob_cut.l0, if_neg, pw]
  | succ d ih =>
    intro i p hi key
    refine Ev.to (ih (i + 1) (p * 31 % 4294967296) (by omega) key) fun k => ?_
    simp (disch := omega) only [blob_cut.l0, if_pos, w64]
    rfl
theorem cut_ev : Ev (fun k => blob_cut.f k b least bits most) (pieces b least bits most) := by
  have key := cut_l1 b least bits most hb hl1 hl2 hb1 hb2 hm b.length 0 [] 0 (by omega) (by omega) (by omega) (by omega) (by simp)
  have e : ([] ++ (if b.length = 0 then (if (0 : Int) < b.length then [(b.length : Int) - 0] else []) else rest b least most (2 ^ bits.toNat) b.length 0)) = pieces b least bits most := by
    rw [List.nil_append]
    by_cases hz : b.length = 0
    · rw [if_pos hz, if_neg (by omega), pieces, hz, rest]
    · rw [if_neg hz, pieces]
  rw [e, roll_zero] at key
  have := cut_l0 b least bits most _ 15 0 1 (by omega) (show Ev (fun k => blob_cut.l1 k b least bits most (pw 15 1) [] 0 0 b b.length 0) _ from key)
  exact this
end

end Go.Proofs.Ytjdfbpjbobmgdaa.PureTogether
