/- What is known of the package variables that the library's text reads: the cell of bytealg.MaxLen holds a whole number. Over this seat's program. -/
import Derived.Test.YtjdfbpjbobmgdaaDoorWMore
import Derived.Test.YtjdfbpjbobmgdaaDoorShelf
namespace Go.Proofs.YtjdfbpjbobmgdaaDoor.Vars
open Go.RowKit Go.Proofs.YtjdfbpjbobmgdaaDoorW.PrintWords Go.Proofs.YtjdfbpjbobmgdaaDoorW.PrintLast Go.Proofs.YtjdfbpjbobmgdaaDoorW.PrintMore

def GOK (w : World) : Prop := ∃ m : Int, w.cell? ⟨0, 0, none⟩ = some (.int .i64 m)
theorem GOK.below {w w1 : World} (h : GOK w) (hb : Below w.heap.size w w1) : GOK w1 := by
  obtain ⟨m, hm⟩ := h
  refine ⟨m, ?_⟩
  have hlt : 0 < w.heap.size := by
    rcases Nat.lt_or_ge 0 w.heap.size with h | h
    · exact h
    · simp [World.cell?, Array.getElem?_eq_none h] at hm
  have := hb.block _ hlt
  simp only [World.cell?] at hm ⊢
  rw [this]
  exact hm
theorem GOK.drewN {w : World} (h : GOK w) (n : Nat) : GOK (w.drewN n) := h.below (Drawn0.below ⟨⟨n, rfl⟩⟩)
theorem GOK.drew {w : World} (h : GOK w) : GOK w.drew := h.drewN 1
theorem GOK.alloc {w : World} (h : GOK w) (o : Obj) : GOK (w.alloc o) := h.below (below_alloc (Below.refl _ _) _)

theorem GOK.shaped {w : World} (h : w.ShapedOpen Tryd.prog) : GOK w := Go.Proofs.cell_of_shapedOpen_int (zero := #[.int .i64 0]) (t := 3) h (of_decide_eq_true (by kernel_rfl)) (by kernel_rfl) rfl (by kernel_rfl) (by kernel_rfl) Tryd.underlying3

theorem R_strings (l : List ByteArray) (e : Nat) (W : World) (base : Nat) (hb : base ≤ W.heap.size) (hl : l.length ≤ 9223372036854775807) :
    Kd.R Kd.string e (W.alloc (.cells (l.map Value.string).toArray e)) base (fun _ => True) (.slice (some ⟨W.heap.size, 0, none⟩) l.length l.length) l := by
  refine ⟨fun _ _ => trivial, l.map Value.string, ?_, ?_⟩
  · have h2 := World.ownsRow_lit (base := base) (e := e) (size := Kd.string.sz) W (l.map Value.string).toArray l.length hb (by simpa [maxLen] using hl) (by simp [Kd.string, Kd.scalar])
    simpa using h2
  · refine ⟨by simp [Kd.string, Kd.scalar], fun j p hj => ?_⟩
    have hlt := (List.getElem?_eq_some_iff.1 hj).1
    have : (List.map Value.string l)[j]? = some (.string p) := by simp [hj]
    simp only [Kd.string, Kd.scalar, Nat.mul_one]
    rw [List.take_one, List.head?_drop, this]
    rfl

end Go.Proofs.YtjdfbpjbobmgdaaDoor.Vars
