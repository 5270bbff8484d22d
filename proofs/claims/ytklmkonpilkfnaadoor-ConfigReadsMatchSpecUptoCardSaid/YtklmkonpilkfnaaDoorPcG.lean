/- Laws of Config: a configuration is read (this session's own). No condition but those in the statements. -/
import Derived.Test.YtklmkonpilkfnaaDoorPcF
import Derived.Test.YtklmkonpilkfnaaDoorPs
namespace Go.Proofs.YtklmkonpilkfnaaDoor.Ev
open Go Go.RowKit
set_option linter.unusedVariables false
set_option linter.unusedSimpArgs false
def cutB (s : ByteArray) : ByteArray × ByteArray × Bool := (mkB (Lib.cut s.data.toList [61]).1, mkB (Lib.cut s.data.toList [61]).2.1, (Lib.cut s.data.toList [61]).2.2)
def wrongPart (s : ByteArray) : Bool := !(cutB s).2.2 || !isWord (cutB s).1 || !isWord (cutB s).2.1
def readGo (L : List Setting) : List Pair → Int → List ByteArray → List Pair × Int × Int
  | acc, _, [] => if chkSet L true none acc ≠ 0 then ([], 0, chkSet L true none acc) else (acc, 0, 0)
  | acc, n, s :: r => if wrongPart s = true then ([], n, 10) else readGo L (acc ++ [((cutB s).1, (cutB s).2.1)]) (iadd .i64 n (iadd .i64 (ssz s) 1)) r
def partsB (s : ByteArray) : List ByteArray := (splitL 44 s.data.toList).map mkB
def readCfg (L : List Setting) (s : ByteArray) : List Pair × Int × Int := if chkSettings L ≠ 0 then ([], 0, chkSettings L) else if s = ⟨#[45]⟩ then ([], 0, 0) else readGo L [] 0 (partsB s)
theorem S84_spec (s : ByteArray) (hs : s.size < 4294967281) : Ultk (fun k => S84 k (s, (⟨#[44]⟩ : ByteArray), ())) (partsB s) := ⟨0, fun k _ => by
  show (if _ then _ else _) = _
  rw [if_pos ⟨hs, show 1 ≤ (⟨#[44]⟩ : ByteArray).size by decide⟩]
  exact congrArg some (split_one 44 s)⟩
theorem S85_spec (s : ByteArray) (hs : s.size < 4294967281) : Ultk (fun k => S85 k (s, (⟨#[61]⟩ : ByteArray), ())) (cutB s) := ⟨0, fun k _ => by
  show cutF s _ = _
  unfold cutF
  rw [if_pos hs]; rfl⟩
theorem cut_sizes (l : List UInt8) : (Lib.cut l [61]).1.length ≤ l.length ∧ (Lib.cut l [61]).2.1.length ≤ l.length := by
  unfold Lib.cut
  split
  · simp only [List.length_take, List.length_drop]; omega
  · simp
theorem cutB_sizes (s : ByteArray) : (cutB s).1.size ≤ s.size ∧ (cutB s).2.1.size ≤ s.size := by
  have := cut_sizes s.data.toList
  rw [size_list s]
  exact this
theorem parts_sizes {s x : ByteArray} (h : x ∈ partsB s) : x.size ≤ s.size := by
  obtain ⟨l, hl, rfl⟩ := List.mem_map.1 h
  rw [mkB_size, size_list]
  exact (splitL_parts _ (Nat.le_refl _) l hl).2
theorem parts_len (s : ByteArray) : (partsB s).length ≤ s.size + 1 := by
  unfold partsB
  rw [List.length_map, size_list]
  exact splitL_len _
theorem read_step {ι : Type} {l : ι → Nat} {L : List Setting} {acc : List Pair} {n : Int} {x : ByteArray} {r : List ByteArray} {j : Int} (ha : (acc.length + 1) * 32 ≤ 140737488355328) {F : ι → List Pair × Int × Int → Option (List Pair × Int × Int)}
    (nx : Ult l (fun i => F i (acc ++ [((cutB x).1, (cutB x).2.1)], iadd .i64 n (iadd .i64 (ssz x) 1), j)) (readGo L (acc ++ [((cutB x).1, (cutB x).2.1)]) (iadd .i64 n (iadd .i64 (ssz x) 1)) r)) (b : Bool) (hb : wrongPart x = b) :
    Ult l (fun i => cnd b (some (([] : List Pair), n, (10 : Int))) (bnd (app? 32 acc [((cutB x).1, (cutB x).2.1)]) fun a9 => F i (a9, iadd .i64 n (iadd .i64 (ssz x) 1), j))) (if wrongPart x = true then ([], n, 10) else readGo L (acc ++ [((cutB x).1, (cutB x).2.1)]) (iadd .i64 n (iadd .i64 (ssz x) 1)) r) := by
  subst hb
  exact Ult.ifS (dec_true _) (fun _ => Ult.ret) fun _ => Ult.bindc (app?_ok (by simpa using ha)) nx
/-- config.ReadConfig -/
theorem S47_spec (L : List Setting) (s : ByteArray) (hL : SetSz L) (hs : s.size < 4294967281) : Ultk (fun k => S47 k (L, s, ())) (readCfg L s) := by
  unfold S47 readCfg
  refine Ult.bind (S17_spec L hL) (Ult.ifS (ine_eq _ _) (fun _ => Ult.ret) fun h0 => Ult.ifS (seq_eq _ _) (fun _ => Ult.ret) fun _ => ?_)
  refine Ult.bind (S84_spec s hs) ?_
  have hpl := parts_len s
  have hps := fun x (h : x ∈ partsB s) => parts_sizes h
  generalize partsB s = P at hpl hps ⊢
  refine (Ult.forA (A := List Pair × Int) (fun _ => Nat.le_refl _) P.length (fun a j => (a.1, a.2, (j : Int))) (fun a j => a.1.length = j) (fun a j => readGo L a.1 a.2 (P.drop j)) ([], 0) rfl fun a j hj ha next => ?_).eq (by rw [List.drop_zero])
  dsimp only
  rw [iltL]
  by_cases hlt' : ¬ j < P.length
  · refine Ult.no (decide_eq_false hlt') ?_
    rw [List.drop_eq_nil_of_le (by omega), readGo]
    refine Ult.bind (Ult.call (f := fun k => S63 k (L, a.1, true, ())) (lp_le _ _ fun _ => Nat.le_refl _) (S63_spec L a.1 true hL (by omega))) ?_
    exact Ult.ifS (ine_eq _ _) (fun _ => Ult.ret) fun _ => Ult.ret
  have hlt : j < P.length := Decidable.not_not.1 hlt'
  refine Ult.yes (decide_eq_true hlt) (Ult.bindc (at?_nat hlt) ?_)
  have hx := hps _ (List.getElem_mem hlt)
  rw [drop_cons hlt, readGo, isucc hlt (by omega)]
  generalize P[j] = x at hx ⊢
  refine Ult.bind (Ult.call (f := fun k => S85 k (x, (⟨#[61]⟩ : ByteArray), ())) (lp_le _ _ fun _ => Nat.le_refl _) (S85_spec x (by omega))) ?_
  obtain ⟨z1, z2⟩ := cutB_sizes x
  have w1 := S60_spec (cutB x).1 (by omega)
  have w2 := S60_spec (cutB x).2.1 (by omega)
  have go := read_step (L := L) (acc := a.1) (n := a.2) (x := x) (r := P.drop (j + 1)) (by rw [ha]; omega) (next (a.1 ++ [((cutB x).1, (cutB x).2.1)], iadd .i64 a.2 (iadd .i64 (ssz x) 1)) hlt (by simp [ha]))
  refine Ult.jn ?_
  refine Ult.ite (fun q => ?_) (fun q => ?_)
  · exact go true (by have q : (!(cutB x).2.2) = true := q; unfold wrongPart; rw [q]; rfl)
  have q : (!(cutB x).2.2) = false := q
  refine Ult.bind (Ult.call (f := fun k => S60 k ((cutB x).1, ())) (lp_le _ _ fun _ => Nat.le_refl _) w1) (Ult.ite (fun q1 => ?_) (fun q1 => ?_))
  · exact go true (by have q1 : (!isWord (cutB x).1) = true := q1; unfold wrongPart; rw [q1, Bool.or_true, Bool.true_or])
  have q1 : (!isWord (cutB x).1) = false := q1
  refine Ult.bind (Ult.call (f := fun k => S60 k ((cutB x).2.1, ())) (lp_le _ _ fun _ => Nat.le_refl _) w2) ?_
  exact go _ (by unfold wrongPart; rw [q, q1, Bool.false_or, Bool.false_or]; rfl)
/-- smithyardref3.ReadConfig -/
theorem S48_spec (L : List Setting) (s : ByteArray) (hL : SetSz L) (hs : s.size < 4294967281) : Ultk (fun k => S48 k (L, s, ())) (readCfg L s) := by
  unfold S48 readCfg
  refine Ult.bind (S18_spec L hL) (Ult.ifS (ine_eq _ _) (fun _ => Ult.ret) fun h0 => Ult.ifS (seq_eq _ _) (fun _ => Ult.ret) fun _ => ?_)
  refine Ult.bind (S84_spec s hs) ?_
  have hpl := parts_len s
  have hps := fun x (h : x ∈ partsB s) => parts_sizes h
  generalize partsB s = P at hpl hps ⊢
  refine (Ult.forA (A := List Pair × Int) (fun _ => Nat.le_refl _) P.length (fun a j => (a.1, a.2, (j : Int))) (fun a j => a.1.length = j) (fun a j => readGo L a.1 a.2 (P.drop j)) ([], 0) rfl fun a j hj ha next => ?_).eq (by rw [List.drop_zero])
  dsimp only
  rw [iltL]
  by_cases hlt' : ¬ j < P.length
  · refine Ult.no (decide_eq_false hlt') ?_
    rw [List.drop_eq_nil_of_le (by omega), readGo]
    have hc := S20_spec L a.1 hL (by omega)
    unfold chkConfig at hc
    rw [if_neg h0] at hc
    refine Ult.bind (Ult.call (f := fun k => S20 k (L, a.1, ())) (lp_le _ _ fun _ => Nat.le_refl _) hc) ?_
    exact Ult.ifS (ine_eq _ _) (fun _ => Ult.ret) fun _ => Ult.ret
  have hlt : j < P.length := Decidable.not_not.1 hlt'
  refine Ult.yes (decide_eq_true hlt) (Ult.bindc (at?_nat hlt) ?_)
  have hx := hps _ (List.getElem_mem hlt)
  rw [drop_cons hlt, readGo, isucc hlt (by omega)]
  generalize P[j] = x at hx ⊢
  refine Ult.bind (Ult.call (f := fun k => S85 k (x, (⟨#[61]⟩ : ByteArray), ())) (lp_le _ _ fun _ => Nat.le_refl _) (S85_spec x (by omega))) ?_
  obtain ⟨z1, z2⟩ := cutB_sizes x
  have w1 := S62_spec (cutB x).1 (by omega)
  have w2 := S62_spec (cutB x).2.1 (by omega)
  have go := read_step (L := L) (acc := a.1) (n := a.2) (x := x) (r := P.drop (j + 1)) (by rw [ha]; omega) (next (a.1 ++ [((cutB x).1, (cutB x).2.1)], iadd .i64 a.2 (iadd .i64 (ssz x) 1)) hlt (by simp [ha]))
  refine Ult.jn ?_
  refine Ult.ite (fun q => ?_) (fun q => ?_)
  · exact go true (by have q : (!(cutB x).2.2) = true := q; unfold wrongPart; rw [q]; rfl)
  have q : (!(cutB x).2.2) = false := q
  refine Ult.bind (Ult.call (f := fun k => S62 k ((cutB x).1, ())) (lp_le _ _ fun _ => Nat.le_refl _) w1) (Ult.ite (fun q1 => ?_) (fun q1 => ?_))
  · exact go true (by have q1 : (!isWord (cutB x).1) = true := q1; unfold wrongPart; rw [q1, Bool.or_true, Bool.true_or])
  have q1 : (!isWord (cutB x).1) = false := q1
  refine Ult.bind (Ult.call (f := fun k => S62 k ((cutB x).2.1, ())) (lp_le _ _ fun _ => Nat.le_refl _) w2) ?_
  exact go _ (by unfold wrongPart; rw [q, q1, Bool.false_or, Bool.false_or]; rfl)
end Go.Proofs.YtklmkonpilkfnaaDoor.Ev
