/- maps.Keys, slices.Sorted and slices.SortFunc of package blob as functions of the evaluator (this session's own). No condition. -/
import Derived.Test.YtcppmncmlhibhaaDoorEvIt
import Derived.Test.YtcppmncmlhibhaaDoorEv9
import Derived.Test.YtcppmncmlhibhaaDoorGvBlb
import Derived.Test.YtcppmncmlhibhaaDoorShelfI
import Derived.Test.YtcppmncmlhibhaaDoorShelfG
import Derived.WalkKit
namespace Go.Proofs.YtcppmncmlhibhaaDoor.Ev
open Go Go.Proofs Go.Shelf Go.RowKit Go.Lib Go.Sort
set_option maxRecDepth 100000
set_option linter.unusedVariables false
set_option linter.unusedSimpArgs false
abbrev KFile : Kd := .agg (.pair .str (.pair .bool (.slice (.int .u8))))
def S65 (_ : Nat) (x : PT [.val (.map .str .bool)]) : Option (OT [.val (.iter 97 .str .bool)]) := some (some x.1)
def F65 : Fn := ⟨[.val (.map .str .bool)], [.val (.iter 97 .str .bool)], S65⟩
theorem ok65 : FnOK Tryd.prog JS 65 F65 := fnOK_keys (ρ := Tryd.keys_ren) Tryd.keys ⟨Tryd.f65, rfl, rfl, by decide⟩
def S64 (_ : Nat) (x : PT [.val (.iter 97 .str .bool)]) : Option (OT [.own .str]) := sortedKeys x.1
def F64 : Fn := ⟨[.val (.iter 97 .str .bool)], [.own .str], S64⟩
theorem ok64 : FnOK Tryd.prog JS 64 F64 :=
  fnOK_sorted (ρ := Tryd.keys_ren) (ρ6 := Tryd.sortedS_ren) (ρM := Tryd.sortStr_ren) Tryd.keys Tryd.sortedS Tryd.sortStr { Tryd.keys with } rfl (enters_of Tryd.func96 (by kernel_rfl) rfl) (enters_of Tryd.func97 (by kernel_rfl) rfl) ⟨Tryd.f64, rfl, rfl, by decide⟩
def cfPath (x y : KFile.T) : Int := Lib.compareBytes x.1.data.toList y.1.data.toList
set_option maxHeartbeats 1000000 in
theorem walkPath (a b : ByteArray) (a1 b1 a2 b2 : Value) (W : World) : Calls Tryd.prog 92 #[.agg #[.string a, a1, a2], .agg #[.string b, b1, b2]] W fun e w' => e = .returned (.int .i64 (Lib.compareBytes a.data.toList b.data.toList)) ∧ ∃ q os, w' = grow (W.drewN q) os := by
  go_enter Tryd.func92, Tryd.ntmps92
  go_wp2_with (go_at_call 72; refine (Tryd.strings_Compare _ _ _).mono ?_; rintro e w' ⟨rfl, rfl⟩)
  go_ret
  exact ⟨rfl, 0, _, by rw [alloc_eq_grow, alloc_eq_grow, grow_grow]; rfl⟩
theorem cmpB_lt : ∀ a b : List UInt8, Lib.compareBytes a b < 0 ↔ a < b
  | [], [] => by simp [Lib.compareBytes]
  | [], b :: b' => by simp [Lib.compareBytes]
  | a :: a', [] => by simp [Lib.compareBytes]
  | a :: a', b :: b' => by
    rw [Lib.compareBytes, List.cons_lt_cons_iff]
    by_cases h1 : a < b
    · rw [if_pos h1]; simp [h1]
    · rw [if_neg h1]
      by_cases h2 : b < a
      · rw [if_pos h2]
        have : a ≠ b := fun e => by subst e; exact absurd h2 h1
        simp [h1, this]
      · rw [if_neg h2]
        have e : a = b := UInt8.le_antisymm (UInt8.not_lt.1 h2) (UInt8.not_lt.1 h1)
        subst e
        simp [h1, cmpB_lt a' b']
theorem ltOf_path (x y : KFile.T) : ltOf cfPath x y = decide (x.1.data.toList < y.1.data.toList) := by
  unfold ltOf cfPath
  by_cases h : x.1.data.toList < y.1.data.toList
  · rw [decide_eq_true h]; exact decide_eq_true ((cmpB_lt _ _).2 h)
  · rw [decide_eq_false h]; exact decide_eq_false fun q => h ((cmpB_lt _ _).1 q)
theorem swoPath : SWO (ltOf cfPath) where
  irrefl x := by rw [ltOf_path]; simp [List.lt_irrefl]
  trans x y z h1 h2 := by
    rw [ltOf_path] at *
    exact decide_eq_true (List.lt_trans (of_decide_eq_true h1) (of_decide_eq_true h2))
  ntrans x y z h1 h2 := by
    rw [ltOf_path] at *
    have h1 := of_decide_eq_false h1
    have h2 := of_decide_eq_false h2
    exact decide_eq_false fun h => by
      have a1 : y.1.data.toList ≤ x.1.data.toList := List.not_lt.1 h1
      have a2 : z.1.data.toList ≤ y.1.data.toList := List.not_lt.1 h2
      exact absurd (List.le_trans a2 a1) (List.not_le.2 h)
theorem rd_file {w : World} {F : Nat → Prop} {vs : List Value} {x : KFile.T} (h : Rd w F KFile vs x) : ∃ v1 v2, vs = [.string x.1, v1, v2] := by
  obtain ⟨va, vb, rfl, h1, vc, vd, rfl, h2, A, c, h3, _⟩ := h
  have h1 : va = [.string x.1] := h1
  have h2 : vc = [.bool x.2.1] := h2
  subst h1 h2 h3
  exact ⟨_, _, rfl⟩
theorem cmpOKPath : CmpOK Tryd.prog 92 KFile cfPath := ⟨swoPath, enters_of Tryd.func92 (by kernel_rfl) rfl, fun w0 F c1 c2 x y w h1 h2 => by
  obtain ⟨a1, a2, rfl⟩ := rd_file h1
  obtain ⟨b1, b2, rfl⟩ := rd_file h2
  exact walkPath x.1 y.1 a1 b1 a2 b2 w⟩
def tabPath (g : Nat) : Option (KFile.T → KFile.T → Int) := if g = 92 then some cfPath else none
def S91 (_ : Nat) (l : List KFile.T) (gs : List Nat) : Option (List KFile.T) := match gs with
  | [g] => (tabPath g).bind fun cf => sortF cf l
  | _ => none
def IO91 : IoFn := ⟨KFile, S91⟩
theorem okIO91 : IoOK Tryd.prog JS 91 IO91 := ioOK_sortFunc (ρ := Tryd.sortFile_ren) (e := KFile) Tryd.sortFile Tryd.isAgg46 Tryd.sizeOf46 (by decide) ⟨Tryd.f91, rfl, rfl, by decide⟩ tabPath fun g cf h => by
  unfold tabPath at h
  split at h
  · rename_i e
    cases h
    rw [e]; exact cmpOKPath
  · cases h
end Go.Proofs.YtcppmncmlhibhaaDoor.Ev
