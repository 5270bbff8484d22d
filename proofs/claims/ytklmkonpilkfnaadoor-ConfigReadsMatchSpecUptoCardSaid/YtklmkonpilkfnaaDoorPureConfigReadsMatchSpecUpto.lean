/- ConfigReadsMatchSpec, for inputs of bounded bulk: the plain law (this session's own). No condition but those in the statement. -/
import Derived.Test.YtklmkonpilkfnaaDoorPcG
import Derived.Test.YtklmkonpilkfnaaDoorStConfigReadsMatchSpecUpto
namespace Go.Proofs.YtklmkonpilkfnaaDoor.Ev
open Go Go.RowKit
set_option linter.unusedVariables false
theorem setSz_of {L : List Setting} (h : WfS 40 (fun x : Setting => x.1.size ≤ 140737488351232 ∧ WfS 16 (fun s : ByteArray => s.size ≤ 140737488351232) x.2) L) : SetSz L :=
  ⟨h.2.1, fun s hs => ⟨(h.2.2 s hs).1, (h.2.2 s hs).2.2.1, (h.2.2 s hs).2.2.2⟩⟩
theorem Ultk.some {f : Nat → Option Bool} (h : Ultk f true) : ∃ k, f k = Option.some true := by
  obtain ⟨K, h⟩ := h
  exact ⟨K, h K (Nat.le_refl _)⟩
theorem readGo_len {L : List Setting} : ∀ (P : List ByteArray) (acc : List Pair) (n : Int), (readGo L acc n P).1.length ≤ acc.length + P.length
  | [], acc, n => by
    rw [readGo]
    split <;> simp
  | s :: P, acc, n => by
    rw [readGo]
    split
    · simp
    · have := readGo_len (L := L) P (acc ++ [((cutB s).1, (cutB s).2.1)]) (iadd .i64 n (iadd .i64 (ssz s) 1))
      simp only [List.length_append, List.length_cons, List.length_nil] at this ⊢
      omega
theorem ConfigReadsMatchSpecUptoPure : ConfigReadsMatchSpecUptoStated := by
  intro L s hL hs0 hb
  have hL := setSz_of hL
  have hs : s.size < 4294967281 := by
    have : kbulk .str s = s.size + 1 := rfl
    omega
  refine Ultk.some ?_
  unfold S9
  refine Ult.bind (S13_spec L hL) (Ult.bind (S47_spec L s hL hs) (Ult.bind (S48_spec L s hL hs) ?_))
  have hlen : (readCfg L s).1.length ≤ 9223372036854775807 := by
    unfold readCfg
    split
    · simp
    · split
      · simp
      · have h1 := readGo_len (L := L) (partsB s) [] 0
        have h2 := parts_len s
        simp only [List.length_nil] at h1
        omega
  refine Ult.yes (by rw [ieq_eq]; simp) (Ult.yes (by rw [ieq_eq]; simp) ?_)
  exact Ult.bind (S22_self _ hlen) (Ult.yes rfl (Ult.bind (S21_self L hL) (Ult.yes rfl (Ult.bind S23_spec Ult.ret))))
end Go.Proofs.YtklmkonpilkfnaaDoor.Ev
