/- Shared: the reference's computes the same plain function of the pieces. No conditions but that the bytes' number fits. -/
import Derived.Test.YtjdfbpjbobmgdaaTogetherShd
import Derived.Test.YtjdfbpjbobmgdaaTogetherPut
import Derived.Test.YtjdfbpjbobmgdaaTogetherPcsRAll
namespace Go.Proofs.Ytjdfbpjbobmgdaa.PureTogether
open Go.RowKit Go.Proofs.Ytjdfbpjbobmgdaa.QTogether Go.Proofs.YtjdfbpjbobmgdaaW.PrintWords Go.Proofs.YtjdfbpjbobmgdaaW.PrintLast Go.Proofs.YtjdfbpjbobmgdaaW.PrintMore Go.Proofs.Ytjdfbpjbobmgdaa.Pure

theorem foldl_ins (cs : List ByteArray) : ∀ K : List ByteArray, SS K → SS (cs.foldl ins K) ∧ (∀ c, c ∈ cs.foldl ins K ↔ c ∈ K ∨ c ∈ cs) ∧ (cs.foldl ins K).length ≤ K.length + cs.length := by
  induction cs with
  | nil => intro K h; exact ⟨h, by simp, by simp⟩
  | cons c cs ih =>
    intro K h
    obtain ⟨h1, h2, h3⟩ := ih (ins K c) (ss_ins h c)
    refine ⟨h1, fun x => ?_, ?_⟩
    · rw [List.foldl_cons, h2 x, mem_ins, List.mem_cons]
      constructor
      · rintro ((h | h) | h)
        · exact .inr (.inl h)
        · exact .inl h
        · exact .inr (.inr h)
      · rintro (h | h | h)
        · exact .inl (.inr h)
        · exact .inl (.inl h)
        · exact .inr h
    · have := len_ins K c
      rw [List.foldl_cons, List.length_cons]
      omega
theorem take_drop_eq (a : List Int) (s n : Nat) : (a.take (s + n)).drop s = (a.drop s).take n := by rw [List.drop_take, Nat.add_sub_cancel_left]
theorem chunks_len (x : List Int) : ∀ a, (chunks x a).length = x.length := by
  induction x with
  | nil => intro a; rfl
  | cons n x ih => intro a; simp [chunks, ih]
theorem shr_l0_step (a b x y : List Int) (r : Int × Int) (K : List ByteArray) (i s n : Nat) (hlt : i < x.length) (hi : i < 3000000) (hs : s + n ≤ a.length) (ha : a.length ≤ 2000000) (hn : 1 ≤ n) (hx : x[i] = (n : Int)) (hK : SS K) (hKl : K.length + 1 < 8796093022208)
    (key2 : Ev (fun k => smithyardref1_Shared.l0 k a b x y (ins K (strOfNums ((a.drop s).take n))) ((s + n : Nat) : Int) ((i + 1 : Nat) : Int)) r) :
    Ev (fun k => smithyardref1_Shared.l0 k a b x y K s i) r := by
  have hrd : rd x (i : Int) = (n : Int) := by rw [rd_lt x i hlt, hx]
  have hw : wrap64 ((s : Int) + (n : Int)) = ((s + n : Nat) : Int) := by rw [w64 (by omega) (by omega)]; omega
  have hw2 : wrap64 ((i : Int) + 1) = ((i + 1 : Nat) : Int) := by rw [w64 (by omega) (by omega)]; rfl
  have hput := put_ev K (strOfNums ((a.drop s).take n)) hK hKl
  refine Ev.to (f := fun k => (smithyardref1_put.f k K (strOfNums ((a.drop s).take n))).bind fun t => smithyardref1_Shared.l0 k a b x y t ((s + n : Nat) : Int) ((i + 1 : Nat) : Int)) (Ev.bindk hput key2) fun k => ?_
  have c1 : (i : Int) < (x.length : Int) := Int.ofNat_lt.2 hlt
  have c2 : ((s + n : Nat) : Int) ≤ (a.length : Int) := Int.ofNat_le.2 hs
  simp only [smithyardref1_Shared.l0]
  rw [hrd, hw, if_pos c1, if_pos (Int.natCast_nonneg _), if_pos (Int.natCast_nonneg _), if_pos (Int.ofNat_le.2 (Nat.le_add_right _ _)), if_pos c2, Int.toNat_natCast, Int.toNat_natCast, take_drop_eq, hw2]
theorem shr_l0 (a b x y : List Int) (r : Int × Int) (hx0 : ∀ n ∈ x, 1 ≤ n) (ha : a.length ≤ 2000000) (hxl : x.length ≤ 2000000) (d : Nat) :
    ∀ (i s : Nat) (K : List ByteArray), i + d = x.length → s ≤ a.length → (x.drop i).sum = (a.length : Int) - s → SS K → K.length ≤ i →
    Ev (fun k => smithyardref1_Shared.l1 k b y ((chunks (x.drop i) (a.drop s)).foldl ins K) 0 0 0) r → Ev (fun k => smithyardref1_Shared.l0 k a b x y K s i) r := by
  induction d with
  | zero =>
    intro i s K hi hs hsum hK hKl key
    have e : x.drop i = [] := List.drop_eq_nil_of_le (by omega)
    rw [e] at key
    clear hsum hKl
    have c : ¬ (i : Int) < (x.length : Int) := by omega
    refine Ev.to key fun k => ?_
    simp only [smithyardref1_Shared.l0]
    rw [if_neg c]
    rfl
  | succ d ih =>
    intro i s K hi hs hsum hK hKl key
    have hlt : i < x.length := by omega
    have hi3 : i < 3000000 := by omega
    have hK1 : K.length + 1 < 8796093022208 := by omega
    have hKi : ∀ c, (ins K c).length ≤ i + 1 := fun c => by have := len_ins K c; omega
    have hid : i + 1 + d = x.length := by omega
    have e : x.drop i = x[i] :: x.drop (i + 1) := List.drop_eq_getElem_cons hlt
    rw [e] at hsum key
    rw [List.sum_cons] at hsum
    have hn := hx0 x[i] (List.getElem_mem hlt)
    have hrest := sum_nonneg (x.drop (i + 1)) (fun n hn => by have h0 := hx0 n (List.mem_of_mem_drop hn); exact Int.le_trans (by decide) h0)
    obtain ⟨n, hnn⟩ : ∃ n : Nat, x[i] = (n : Int) := ⟨x[i].toNat, (Int.toNat_of_nonneg (Int.le_trans (by decide) hn)).symm⟩
    rw [hnn] at hsum hn key
    have hn1 : 1 ≤ n := Int.ofNat_le.1 hn
    have hsn : s + n ≤ a.length ∧ (x.drop (i + 1)).sum = (a.length : Int) - ((s + n : Nat) : Int) := by
      generalize (x.drop (i + 1)).sum = R at hsum hrest ⊢
      clear key ih hx0 e hnn hK hKi
      omega
    obtain ⟨h1, h2⟩ := hsn
    clear hsum hrest
    simp only [chunks, Int.toNat_natCast, List.foldl_cons, List.drop_drop] at key
    have key2 := ih (i + 1) (s + n) _ hid h1 h2 (ss_ins hK (strOfNums ((a.drop s).take n))) (hKi _) key
    exact shr_l0_step a b x y r K i s n hlt hi3 h1 ha hn1 hnn hK hK1 key2
theorem shr_l2 (b y : List Int) (K : List ByteArray) (hK : SS K) (hKl : K.length ≤ 2000000) (r : Int × Int) (p q : Int) (c : ByteArray) (d : Nat) : ∀ (j : Nat) (s : Int), j + d = K.length → 0 ≤ s → s + (if c ∈ K.drop j then (c.size : Int) else 0) ≤ 8000000 →
    Ev (fun k => smithyardref1_Shared.l1 k b y K p (s + (if c ∈ K.drop j then (c.size : Int) else 0)) (wrap64 (q + 1))) r → Ev (fun k => smithyardref1_Shared.l2 k b y K p s q c j) r := by
  induction d with
  | zero =>
    intro j s hj h0 h1 key
    have e : K.drop j = [] := List.drop_eq_nil_of_le (by omega)
    rw [e, if_neg (by simp), Int.add_zero] at key
    refine Ev.to key fun k => ?_
    simp only [smithyardref1_Shared.l2]
    rw [if_neg (by omega)]
  | succ d ih =>
    intro j s hj h0 h1 key
    have hlt : j < K.length := by omega
    have e : K.drop j = K[j] :: K.drop (j + 1) := List.drop_eq_getElem_cons hlt
    rw [e] at key
    by_cases hc : K[j] = c
    · have hno : ¬ c ∈ K.drop (j + 1) := by
        intro hm
        have hp : SS (K.drop j) := hK.sublist (List.drop_sublist _ _)
        rw [e] at hp
        have := (List.pairwise_cons.1 hp).1 c hm
        rw [hc] at this
        exact this.irr
      rw [if_pos (by simp [hc])] at key
      rw [e, if_pos (by simp [hc])] at h1
      refine Ev.to (ih (j + 1) (s + c.size) (by omega) ?_ ?_ ?_) fun k => ?_
      · omega
      · rw [if_neg hno]
        omega
      · rw [if_neg hno, Int.add_zero]
        exact key
      · simp only [smithyardref1_Shared.l2]
        rw [rdOf_lt K j hlt, if_pos (by omega), if_pos (by omega), if_pos (toList_inj.2 hc), w64 (by omega) (by omega), w64 (by omega) (by omega)]
        rfl
    · have hiff : (c ∈ K[j] :: K.drop (j + 1)) ↔ c ∈ K.drop (j + 1) := by
        rw [List.mem_cons]
        constructor
        · rintro (h | h)
          · exact absurd h.symm hc
          · exact h
        · exact .inr
      have hite : (if c ∈ K[j] :: K.drop (j + 1) then (c.size : Int) else 0) = (if c ∈ K.drop (j + 1) then (c.size : Int) else 0) := by
        by_cases h : c ∈ K.drop (j + 1)
        · rw [if_pos h, if_pos (hiff.2 h)]
        · rw [if_neg h, if_neg (fun h' => h (hiff.1 h'))]
      rw [hite] at key
      rw [e, hite] at h1
      have hs8 : s ≤ 8000000 := by
        by_cases h : c ∈ K.drop (j + 1)
        · rw [if_pos h] at h1
          omega
        · rw [if_neg h] at h1
          omega
      refine Ev.to (ih (j + 1) s (by omega) h0 h1 key) fun k => ?_
      · simp only [smithyardref1_Shared.l2]
        rw [rdOf_lt K j hlt, if_pos (by omega), if_pos (by omega), if_neg (fun h => hc (toList_inj.1 h)), w64 (by omega) (by omega)]
        rfl

theorem shr_l1_step (b y : List Int) (r : Int × Int) (K : List ByteArray) (i s n : Nat) (t : Int) (hlt : i < y.length) (hs : s + n ≤ b.length) (hb : b.length ≤ 2000000) (hy : y[i] = (n : Int))
    (k2 : Ev (fun k => smithyardref1_Shared.l2 k b y K ((s + n : Nat) : Int) t i (strOfNums ((b.drop s).take n)) 0) r) :
    Ev (fun k => smithyardref1_Shared.l1 k b y K s t i) r := by
  have hrd : rd y (i : Int) = (n : Int) := by rw [rd_lt y i hlt, hy]
  have hw : wrap64 ((s : Int) + (n : Int)) = ((s + n : Nat) : Int) := by rw [w64 (by omega) (by omega)]; omega
  refine Ev.to k2 fun k => ?_
  have c1 : (i : Int) < (y.length : Int) := Int.ofNat_lt.2 hlt
  have c2 : ((s + n : Nat) : Int) ≤ (b.length : Int) := Int.ofNat_le.2 hs
  simp only [smithyardref1_Shared.l1]
  rw [hrd, hw, if_pos c1, if_pos (Int.natCast_nonneg _), if_pos (Int.natCast_nonneg _), if_pos (Int.ofNat_le.2 (Nat.le_add_right _ _)), if_pos c2, Int.toNat_natCast, Int.toNat_natCast, take_drop_eq]
theorem shr_l1 (b y : List Int) (K : List ByteArray) (hK : SS K) (hKl : K.length ≤ 2000000) (hy0 : ∀ n ∈ y, 1 ≤ n) (hb : b.length ≤ 2000000) (hyl : y.length ≤ 2000000) (d : Nat) :
    ∀ (i s : Nat) (t : Int), i + d = y.length → s ≤ b.length → (y.drop i).sum = (b.length : Int) - s → 0 ≤ t → t ≤ s →
    Ev (fun k => smithyardref1_Shared.l1 k b y K s t i) (t + common K (chunks (y.drop i) (b.drop s)), 0) := by
  induction d with
  | zero =>
    intro i s t hi hs hsum h0 h1
    have e : y.drop i = [] := List.drop_eq_nil_of_le (by omega)
    rw [e]
    clear hsum
    have c : ¬ (i : Int) < (y.length : Int) := by omega
    simp only [chunks, common, Int.add_zero]
    refine Ev.to (Ev.now _) fun k => ?_
    simp only [smithyardref1_Shared.l1]
    rw [if_neg c]
  | succ d ih =>
    intro i s t hi hs hsum h0 h1
    have hlt : i < y.length := by omega
    have hid : i + 1 + d = y.length := by omega
    have e : y.drop i = y[i] :: y.drop (i + 1) := List.drop_eq_getElem_cons hlt
    rw [e] at hsum ⊢
    rw [List.sum_cons] at hsum
    have hn := hy0 y[i] (List.getElem_mem hlt)
    have hrest := sum_nonneg (y.drop (i + 1)) (fun n hn => by have h0 := hy0 n (List.mem_of_mem_drop hn); exact Int.le_trans (by decide) h0)
    obtain ⟨n, hnn⟩ : ∃ n : Nat, y[i] = (n : Int) := ⟨y[i].toNat, (Int.toNat_of_nonneg (Int.le_trans (by decide) hn)).symm⟩
    rw [hnn] at hsum hn ⊢
    have hsn : s + n ≤ b.length ∧ (y.drop (i + 1)).sum = (b.length : Int) - ((s + n : Nat) : Int) := by
      generalize (y.drop (i + 1)).sum = R at hsum hrest ⊢
      clear ih hy0 e hnn hK
      omega
    obtain ⟨g1, g2⟩ := hsn
    clear hsum hrest
    have hsz : (strOfNums ((b.drop s).take n)).size = n := by rw [size_str, List.length_take, List.length_drop]; omega
    simp only [chunks, common, Int.toNat_natCast, List.drop_drop]
    have hcase : 0 ≤ (if strOfNums ((b.drop s).take n) ∈ K then ((strOfNums ((b.drop s).take n)).size : Int) else 0) ∧ (if strOfNums ((b.drop s).take n) ∈ K then ((strOfNums ((b.drop s).take n)).size : Int) else 0) ≤ n := by
      rw [hsz]
      split
      · exact ⟨Int.natCast_nonneg _, Int.le_refl _⟩
      · exact ⟨Int.le_refl _, Int.natCast_nonneg _⟩
    obtain ⟨hc0, hc1⟩ := hcase
    have hx1 : 0 ≤ t + (if strOfNums ((b.drop s).take n) ∈ K then ((strOfNums ((b.drop s).take n)).size : Int) else 0) := Int.add_nonneg h0 hc0
    have hx2 : t + (if strOfNums ((b.drop s).take n) ∈ K then ((strOfNums ((b.drop s).take n)).size : Int) else 0) ≤ ((s + n : Nat) : Int) := by rw [Int.natCast_add]; exact Int.add_le_add h1 hc1
    have hx3 : t + (if strOfNums ((b.drop s).take n) ∈ K then ((strOfNums ((b.drop s).take n)).size : Int) else 0) ≤ 8000000 := by
      have : ((s + n : Nat) : Int) ≤ 2000000 := Int.le_trans (Int.ofNat_le.2 g1) (Int.ofNat_le.2 hb)
      exact Int.le_trans (Int.le_trans hx2 this) (by decide)
    have key := ih (i + 1) (s + n) _ hid g1 g2 hx1 hx2
    rw [Int.add_assoc] at key
    have hw2 : wrap64 ((i : Int) + 1) = ((i + 1 : Nat) : Int) := by
      have : i < 3000000 := by clear hx3 hx2 hx1 key; omega
      rw [w64 (by clear hx3 hx2 hx1 key; omega) (by clear hx3 hx2 hx1 key; omega)]
      rfl
    rw [← hw2] at key
    have k2 := shr_l2 b y K hK hKl _ ((s + n : Nat) : Int) (i : Int) (strOfNums ((b.drop s).take n)) K.length 0 t (Nat.zero_add _) h0 (by rw [List.drop_zero]; exact hx3) (by rw [List.drop_zero]; exact key)
    exact shr_l1_step b y _ K i s n t hlt g1 hb hnn k2
theorem common_congr {K K' : List ByteArray} (h : ∀ c, c ∈ K ↔ c ∈ K') (cs : List ByteArray) : common K cs = common K' cs := by
  induction cs with
  | nil => rfl
  | cons c cs ih =>
    simp only [common, ih]
    by_cases hc : c ∈ K
    · rw [if_pos hc, if_pos ((h c).1 hc)]
    · rw [if_neg hc, if_neg (fun h' => hc ((h c).2 h'))]
theorem refshared_ev (a b : List Int) (least bits most : Int) : Ev (fun k => smithyardref1_Shared.f k a b least bits most) (sharedR a b least bits most) := by
  by_cases ha : (piecesR a least bits most).2 = 0
  · by_cases hb : (piecesR b least bits most).2 = 0
    · have e : sharedR a b least bits most = (common (chunks (piecesR a least bits most).1 a) (chunks (piecesR b least bits most).1 b), 0) := by unfold sharedR; rw [if_pos ha, if_pos hb]
      rw [e]
      unfold smithyardref1_Shared.f
      refine Ev.bindk (refpieces_ev a least bits most) (Ev.ite_pos ha (Ev.bindk (refpieces_ev b least bits most) (Ev.ite_pos hb ?_)))
      have xl := piecesR_len a least bits most
      have yl := piecesR_len b least bits most
      obtain ⟨ea, la⟩ := piecesR_ok ha
      obtain ⟨eb, lb⟩ := piecesR_ok hb
      obtain ⟨p1, p2⟩ := pieces_sum a least bits most
      obtain ⟨q1, q2⟩ := pieces_sum b least bits most
      rw [ea] at xl ⊢
      rw [eb] at yl ⊢
      obtain ⟨f1, f2, f3⟩ := foldl_ins (chunks (pieces a least bits most) a) [] (by simp [SS])
      rw [chunks_len] at f3
      have key := shr_l1 b (pieces b least bits most) _ f1 (by simp at f3; omega) q1 (by omega) (by omega) _ 0 0 0 (Nat.zero_add _) (by omega) (by simpa using q2) (by omega) (by omega)
      rw [common_congr (K' := chunks (pieces a least bits most) a) (fun c => by rw [f2 c]; simp)] at key
      rw [List.drop_zero, List.drop_zero, Int.zero_add] at key
      have k0 := shr_l0 a b (pieces a least bits most) (pieces b least bits most) _ p1 (by omega) (by omega) _ 0 0 [] (Nat.zero_add _) (by omega) (by simpa using p2) (by simp [SS]) (by simp) (by rw [List.drop_zero, List.drop_zero]; exact key)
      exact k0
    · have e : sharedR a b least bits most = (0, (piecesR b least bits most).2) := by unfold sharedR; rw [if_pos ha, if_neg hb]
      rw [e]
      unfold smithyardref1_Shared.f
      exact Ev.bindk (refpieces_ev a least bits most) (Ev.ite_pos ha (Ev.bindk (refpieces_ev b least bits most) (Ev.ite_neg hb (Ev.now _))))
  · have e : sharedR a b least bits most = (0, (piecesR a least bits most).2) := by unfold sharedR; rw [if_neg ha]
    rw [e]
    unfold smithyardref1_Shared.f
    exact Ev.bindk (refpieces_ev a least bits most) (Ev.ite_neg ha (Ev.now _))

end Go.Proofs.Ytjdfbpjbobmgdaa.PureTogether
