/- slices.Delete of one string of an own row, by hand (this session's own, after the kit's Derived/Shelf/SlicesE/Delete.lean). The conditions stand in each statement. -/
import Derived.Test.YtocgdpnealaoeaaDoorProg
import Derived.Shelf.SlicesE.Kit
import Derived.Shelf.RegionOpenPlain
import Derived.WalkKit
import Derived.Deep.RegionLaw
import Derived.Lib.Walk
import Derived.Lib.SliceRun
import Derived.Shelf.Spec.SlicesInsertGrow
namespace Go.Proofs.YtocgdpnealaoeaaDoor.Ev
open Go Go.Proofs Go.Shelf Go.RowKit Go.Lib
set_option linter.unusedVariables false
set_option linter.unusedSimpArgs false
abbrev ZE : Value := .string ⟨#[]⟩
theorem infoE : ∃ i, Tryd.prog.info? 9 = some i ∧ i.zero = some ZE ∧ i.size = 1 ∧ i.bytes = 16 := by
  have h : (Tryd.prog.info? 9).isSome = true := by kernel_rfl
  obtain ⟨i, hi⟩ := Option.isSome_iff_exists.1 h
  have e1 : (Tryd.prog.info? 9).bind (·.zero) = some ZE := by kernel_rfl
  have e2 : (Tryd.prog.info? 9).map (·.size) = some 1 := by kernel_rfl
  have e3 : (Tryd.prog.info? 9).map (·.bytes) = some 16 := by kernel_rfl
  rw [hi] at e1 e2 e3
  exact ⟨i, hi, e1, by simpa using e2, by simpa using e3⟩
set_option maxHeartbeats 4000000 in
set_option maxRecDepth 100000 in
theorem del_walk (b off n c i j : Nat) (cs : List Value) (w : World) (hj : j = i + 1) (hi : i < n) (hnc : n ≤ c) (h63 : n ≤ 140737488355328) (hcl : cs.length = n) (hcs : ∀ k v, cs[k]? = some v → w.cell? ⟨b, off + k, none⟩ = some v) (hfz : ∀ k, k < n → w.frozen? ⟨b, off + k, none⟩ = false) (h1 : ∀ v ∈ cs, v.oneCell' = true) :
    Calls Tryd.prog 14 #[.slice (some ⟨b, off, none⟩) n c, .int .i64 i, .int .i64 j] w fun e w' => e = .returned (.slice (some ⟨b, off, none⟩) (n - 1) c) ∧
      w' = (w.drew.setCells b (off + i) (cs.drop j)).setCells b (off + (n - 1)) [ZE] := by
  have t3 := Tryd.underlying3; have a3 := Tryd.isAgg3; have z3 := Tryd.sizeOf3; have v3 := Tryd.zeroValue3; have t4 := Tryd.underlying4; have a4 := Tryd.isAgg4; have z4 := Tryd.sizeOf4; have v4 := Tryd.zeroValue4; have t23 := Tryd.underlying23; have a23 := Tryd.isAgg23; have z23 := Tryd.sizeOf23; have v23 := Tryd.zeroValue23; have t9 := Tryd.underlying9; have a9 := Tryd.isAgg9; have z9 := Tryd.sizeOf9; have v9 := Tryd.zeroValue9
  have u3 := run_underlying Tryd.underlying3; have u4 := run_underlying Tryd.underlying4; have u23 := run_underlying Tryd.underlying23
  have mixed : Tryd.prog.follows .mixedOrders = true := by kernel_rfl
  obtain ⟨i0, hi0, hz0, hz1, hzb⟩ := infoE
  obtain ⟨news, hnews⟩ : ∃ news, news = cs.drop j := ⟨_, rfl⟩
  have hlen : news.length = n - j := by rw [hnews, List.length_drop, hcl]
  have hget : ∀ t u, news[t]? = some u → w.cell? ⟨b, off + (j + t), none⟩ = some u := fun t u hu => by
    rw [hnews, List.getElem?_drop] at hu
    exact hcs _ _ hu
  obtain ⟨A, hA, hsrc⟩ : ∃ A : Addr, (if c = j then some (⟨b, off, none⟩ : Addr) else some ⟨b, off + j, none⟩) = some A ∧ Hid (∀ t u, news[t]? = some u → w.drew.cell? (A.add t) = some u) := by
    by_cases h : c = j
    · refine ⟨⟨b, off, none⟩, if_pos h, fun t u hu => ?_⟩
      have h0 : news.length = 0 := by rw [hlen]; omega
      rw [List.length_eq_zero_iff.1 h0] at hu
      simp at hu
    · refine ⟨⟨b, off + j, none⟩, if_neg h, fun t u hu => ?_⟩
      rw [Addr.add_lit, show off + j + t = off + (j + t) by omega]
      exact hget t u hu
  have hsome : ∀ k, k < n → (w.cell? ⟨b, off + k, none⟩).isSome = true := fun k hk => by
    rw [hcs k cs[k] (List.getElem?_eq_getElem (by omega))]; rfl
  have s1 : Hid (news.length = (n - j) * 1) := by rw [Nat.mul_one]; exact hlen
  have s2 : Hid (∀ u ∈ news, u.oneCell' = true) := fun u hu => h1 u (by rw [hnews] at hu; exact List.mem_of_mem_drop hu)
  have s3 : Hid (∀ t, t < news.length → (w.drew.cell? ⟨b, off + i * 1 + t, none⟩).isSome = true ∧ w.drew.frozen? ⟨b, off + i * 1 + t, none⟩ = false) := by
    intro t ht
    rw [hlen] at ht
    rw [Nat.mul_one, Nat.add_assoc]
    exact ⟨hsome (i + t) (by omega), hfz (i + t) (by omega)⟩
  obtain ⟨W1, hW1⟩ : ∃ W1, W1 = w.drew.setCells b (off + i * 1) news := ⟨_, rfl⟩
  have hsm : ∀ k, k < n → (W1.cell? ⟨b, off + k, none⟩).isSome = true := fun k hk => by
    rw [hW1]
    exact isSome_setCells b _ _ _ (fun q hq => (s3.out q hq).1) _ (hsome k hk)
  have hfr : ∀ k, k < n → W1.frozen? ⟨b, off + k, none⟩ = false := fun k hk => by
    rw [hW1, World.frozen?_setCells]; exact hfz k hk
  have hnn : n - (i + (n - j)) = 1 := by omega
  have hcl2 : ∀ ty, (Builtin.clear_ #[23] ty #[.slice (some ⟨b, off + (i + (n - j)), none⟩) (n - (i + (n - j))) (c - (i + (n - j)))]).run Tryd.prog W1 = .ok (.tuple #[]) (W1.setCells b (off + (i + (n - j))) (List.replicate (n - (i + (n - j))) ZE)) :=
    fun ty => Lib.run_clear_slice W1 23 9 ty ZE Tryd.underlying23 Tryd.zeroValue9 rfl rfl b (off + (i + (n - j))) _ _ (by omega) (fun t ht => by rw [show off + (i + (n - j)) + t = off + (i + (n - j) + t) by omega]; exact hsm _ (by omega)) (fun t ht => by rw [show off + (i + (n - j)) + t = off + (i + (n - j) + t) by omega]; exact hfr _ (by omega))
  have hX : Hid (W1.setCells b (off + (i + (n - j))) (List.replicate (n - (i + (n - j))) ZE) = (w.drew.setCells b (off + i) (cs.drop j)).setCells b (off + (n - 1)) [ZE]) := by
    rw [hW1, hnn, hnews, Nat.mul_one, show i + (n - j) = n - 1 by omega]; rfl
  have hW : Hid (W1 = w.drew.setCells b (off + i * 1) news) := hW1
  have hn1 : Hid (i + (n - j) = n - 1) := by show i + (n - j) = n - 1; omega
  have hij : i ≠ j := by omega
  have hij2 : i ≤ j := by omega
  have hjn : j ≤ n := by omega
  have hic : i ≤ c := by omega
  have hjc : j ≤ c := by omega
  clear hj hnn hW1 hsm hfr hget hnews hlen hcs hfz hsome
  go_enter Tryd.func14, Tryd.ntmps14
  go_wp2_with fail
  go_region_law_o (refine step_append_room rfl (.tmp 22) (.tmp 25) 23 rfl 9 i0 1 Tryd.underlying23 hi0 hz1 b off i c (by simp [Act.eval, Act.put]) A (n - j) (c - j) news (by simp [Act.eval, Act.put]) s1.out hsrc.out s2.out (by omega) s3.out ?_; rw [← hW.out])
  go_wp2
  go_ret
  exact ⟨by rw [hn1.out]; rfl, hX.out⟩
end Go.Proofs.YtocgdpnealaoeaaDoor.Ev
