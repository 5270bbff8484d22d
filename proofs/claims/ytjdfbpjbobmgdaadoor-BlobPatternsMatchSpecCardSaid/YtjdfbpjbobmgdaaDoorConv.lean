/- '[]byte(s)' in the print's words: the row that it makes reads as the string's bytes. The string's length fits an int. -/
import Derived.Test.YtjdfbpjbobmgdaaDoorWMore
namespace Go.Proofs.YtjdfbpjbobmgdaaDoor.Conv
open Go.RowKit Go.Proofs.YtjdfbpjbobmgdaaDoorW.PrintWords Go.Proofs.YtjdfbpjbobmgdaaDoorW.PrintLast Go.Proofs.YtjdfbpjbobmgdaaDoorW.PrintMore

theorem C_int {w : World} {k : IntKind} {A : Option Addr} {n : Nat} {xs : List Int} (h : ReadsInt w k A n xs) : Kd.C (Kd.int k) w A n xs := by
  refine ⟨h.1, h.2.1, fun hp => ?_⟩
  obtain ⟨ad, e, hc⟩ := h.2.2 hp
  refine ⟨ad, e, fun i p hi => ⟨[.int k p], rfl, rfl, fun j u hj => ?_⟩⟩
  have hlt := (List.getElem?_eq_some_iff.1 hi).1
  have hj0 : j = 0 := by
    have := (List.getElem?_eq_some_iff.1 hj).1
    simp at this
    exact this
  subst hj0
  simp at hj
  subst hj
  have := hc i (by rw [← h.1]; exact hlt)
  simp only [List.getD_eq_getElem?_getD, hi, Option.getD_some] at this
  simpa [Kd.int, Kd.scalar] using this
theorem bytes_C (W : World) (e : TypeId) (s : ByteArray) (hs : s.size ≤ 9223372036854775807) : Kd.C (Kd.int .u8) (Lib.bytesWorld W e s) (some ⟨W.heap.size, 0, none⟩) (bytesOf s).length (bytesOf s) := by
  rw [bytesOf_length]
  exact C_int (bytes_reads W e s hs)
theorem bytes_grown (W : World) (e : TypeId) (s : ByteArray) : Below W.heap.size W (Lib.bytesWorld W e s) := bytes_below (Below.refl _ _) (Nat.le_refl _) e s

end Go.Proofs.YtjdfbpjbobmgdaaDoor.Conv
