/- The digest: what the program's Digest and the reference's compute, as one plain function of the bytes. No conditions but that bytes are bytes and their number fits. -/
import Derived.Test.YtjdfbpjbobmgdaaDoorQPat
import Derived.Test.YtjdfbpjbobmgdaaDoorBase
namespace Go.Proofs.YtjdfbpjbobmgdaaDoor.PurePat
open Go.RowKit Go.Proofs.YtjdfbpjbobmgdaaDoor.QPat Go.Proofs.YtjdfbpjbobmgdaaDoorW.PrintWords Go.Proofs.YtjdfbpjbobmgdaaDoorW.PrintLast Go.Proofs.YtjdfbpjbobmgdaaDoorW.PrintMore Go.Proofs.YtjdfbpjbobmgdaaDoor.Pure

def hstep (h c : Int) : Int := IntKind.u64.wrap ((Go.bits .xor .u64 h (IntKind.u64.wrap c)) * 1099511628211)
def hash (l : List Int) : Int := l.foldl hstep 14695981039346656037
theorem hstep_range (h c : Int) : 0 ≤ hstep h c ∧ hstep h c ≤ 18446744073709551615 := wu64_range _
theorem fold_range (l : List Int) : ∀ h, 0 ≤ h ∧ h ≤ 18446744073709551615 → 0 ≤ l.foldl hstep h ∧ l.foldl hstep h ≤ 18446744073709551615 := by
  induction l with
  | nil => intro h hh; exact hh
  | cons a l ih => intro h _; exact ih _ (hstep_range h a)
theorem hash_range (l : List Int) : 0 ≤ hash l ∧ hash l ≤ 18446744073709551615 := fold_range l _ (by omega)

def digs : ByteArray := ⟨#[48, 49, 50, 51, 52, 53, 54, 55, 56, 57, 97, 98, 99, 100, 101, 102]⟩
def dg (c : Int) : Int := bt digs c
def dl (m : Nat) (n : Int) : List Int := (List.range m).map fun j => dg (n / 16 ^ (m - 1 - j) % 16)
theorem dl_snoc (m : Nat) (n : Int) : dl (m + 1) n = dl m (n / 16) ++ [dg (n % 16)] := by
  unfold dl
  rw [List.range_succ, List.map_append]
  congr 1
  · apply List.map_congr_left
    intro j hj
    have hj' : j < m := by simpa using hj
    have e : m + 1 - 1 - j = (m - 1 - j) + 1 := by omega
    rw [e, Int.pow_succ, Int.mul_comm, Int.ediv_ediv_of_nonneg (by decide)]
  · simp
theorem dl_cons (m : Nat) (n : Int) : dl (m + 1) n = dg (n / 16 ^ m % 16) :: dl m n := by
  unfold dl
  rw [List.range_succ_eq_map, List.map_cons, List.map_map]
  congr 1
  apply List.map_congr_left
  intro j hj
  have hj' : j < m := by simpa using hj
  have e : m + 1 - 1 - (j + 1) = m - 1 - j := by omega
  simp only [Function.comp, Nat.succ_eq_add_one]
  rw [e]
def digest (l : List Int) : ByteArray := strOfNums (dl 16 (hash l))

theorem dig_l1 (m : Nat) : ∀ (n : Int) (x : List Int) (i : Int), m ≤ 16 → i = 16 - (m : Int) → x.length = 16 → 0 ≤ n → n ≤ 18446744073709551615 →
    Ev (fun k => blob_Digest.l1 k n x 16 i) (strOfNums (dl m n ++ x.drop m)) := by
  induction m with
  | zero =>
    intro n x i _ hi hx h0 h1
    refine Ev.to (f := fun _ => some (strOfNums x)) (Ev.now _) fun k => ?_
    simp only [blob_Digest.l1]
    rw [if_neg (by omega)]
  | succ m ih =>
    intro n x i hm hi hx h0 h1
    have ha : Go.bits .and .u64 n 15 = n % 16 := and15 h0 h1
    have hw : wrap64 (15 - i) = (m : Int) := by rw [w64 (by omega) (by omega)]; omega
    have hw1 : wrap64 (i + 1) = 16 - (m : Int) := by rw [w64 (by omega) (by omega)]; omega
    have key := ih (n / 16) (x.set m (dg (n % 16))) (16 - (m : Int)) (by omega) rfl (by simpa using hx) (by omega) (by omega)
    have e : dl m (n / 16) ++ (x.set m (dg (n % 16))).drop m = dl (m + 1) n ++ x.drop (m + 1) := by
      rw [dl_snoc, List.append_assoc]
      congr 1
      rw [List.drop_eq_getElem_cons (by rw [List.length_set]; omega)]
      rw [List.getElem_set_self, List.drop_set_of_lt (by omega)]
      rfl
    rw [e] at key
    refine Ev.to (f := fun k => blob_Digest.l1 k (n / 16) (x.set m (dg (n % 16))) 16 (16 - (m : Int))) key fun k => ?_
    simp only [blob_Digest.l1]
    rw [ha, hw, hw1, if_pos (by omega), if_pos (by omega), if_pos (by omega), if_pos (by omega), if_pos (by omega)]
    rfl

theorem dig_l0 (l : List Int) (hl : l.length ≤ 140737488351232) (d : Nat) : ∀ (i : Nat) (h : Int), i + d = l.length → 0 ≤ h → h ≤ 18446744073709551615 →
    Ev (fun k => blob_Digest.l0 k h l l.length i) (strOfNums (dl 16 ((l.drop i).foldl hstep h))) := by
  induction d with
  | zero =>
    intro i h hi h0 h1
    have hd : l.drop i = [] := List.drop_eq_nil_of_le (by omega)
    have key := dig_l1 16 h (List.replicate 16 0) 0 (by omega) (by omega) (by simp) h0 h1
    rw [hd]
    have e : dl 16 h ++ (List.replicate 16 (0 : Int)).drop 16 = dl 16 ([].foldl hstep h) := by simp
    rw [e] at key
    refine Ev.to key fun k => ?_
    simp only [blob_Digest.l0]
    rw [if_neg (by omega), if_pos (by omega)]
    simp only [Option.bind_some, List.length_replicate]
    rfl
  | succ d ih =>
    intro i h hi h0 h1
    have hlt : i < l.length := by omega
    have hr := hstep_range h l[i]
    have key := ih (i + 1) (hstep h l[i]) (by omega) hr.1 hr.2
    rw [drop_lt l i hlt, List.foldl_cons]
    refine Ev.to key fun k => ?_
    simp only [blob_Digest.l0]
    rw [if_pos (by omega), if_pos (by omega), if_pos (by omega), rd_lt l i hlt, w64 (by omega) (by omega)]
    rfl
theorem dig_ev (l : List Int) (hl : l.length ≤ 140737488351232) : Ev (fun k => blob_Digest.f k l) (digest l) := by
  have := dig_l0 l hl l.length 0 14695981039346656037 (by omega) (by omega) (by omega)
  exact this

theorem digest_nil : digest [] = ⟨#[99, 98, 102, 50, 57, 99, 101, 52, 56, 52, 50, 50, 50, 51, 50, 53]⟩ := by decide +kernel
theorem awake_ev : Ev (fun k => smithyardlaw1_awake.f k) true := by
  unfold smithyardlaw1_awake.f
  refine Ev.bindk (dig_ev [] (by decide)) (Ev.const ?_)
  rw [digest_nil]
  decide +kernel

end Go.Proofs.YtjdfbpjbobmgdaaDoor.PurePat
