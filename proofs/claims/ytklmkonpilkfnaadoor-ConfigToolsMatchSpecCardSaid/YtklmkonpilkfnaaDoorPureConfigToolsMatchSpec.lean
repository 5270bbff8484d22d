/- ConfigToolsMatchSpec: the plain law (this session's own). No condition but those in the statement. -/
import Derived.Test.YtklmkonpilkfnaaDoorPcJ
import Derived.Test.YtklmkonpilkfnaaDoorStConfigToolsMatchSpec
namespace Go.Proofs.YtklmkonpilkfnaaDoor.Ev
open Go Go.RowKit
set_option linter.unusedVariables false
theorem pairSz_of {L : List Pair} (h : WfS 32 (fun x : Pair => x.1.size ≤ 140737488351232 ∧ x.2.size ≤ 140737488351232) L) : PairSz L := ⟨h.2.1, h.2.2⟩
theorem strsSz_of {L : List ByteArray} (h : WfS 16 (fun s : ByteArray => s.size ≤ 140737488351232) L) : StrsSz L := ⟨h.2.1, h.2.2⟩
theorem Ultk.some {f : Nat → Option Bool} (h : Ultk f true) : ∃ k, f k = Option.some true := by
  obtain ⟨K, h⟩ := h
  exact ⟨K, h K (Nat.le_refl _)⟩
theorem ConfigToolsMatchSpecPure : ConfigToolsMatchSpecStated := by
  intro W K q hW hK hq
  obtain ⟨a, b, c, d, e⟩ := W
  obtain ⟨ha, hb, hc, hd, he⟩ := hW
  dsimp only at ha hb hc hd he
  have ha : SetSz a := ⟨ha.2.1, fun s hs => ⟨(ha.2.2 s hs).1, (ha.2.2 s hs).2.2.1, (ha.2.2 s hs).2.2.2⟩⟩
  have hb : CondSz b := ⟨hb.2.1, fun s hs => ⟨(hb.2.2 s hs).1, pairSz_of (hb.2.2 s hs).2.1, pairSz_of (hb.2.2 s hs).2.2⟩⟩
  have hc : PlatSz c := ⟨hc.2.1, fun s hs => ⟨(hc.2.2 s hs).1, pairSz_of (hc.2.2 s hs).2⟩⟩
  have hd : ToolSz d := ⟨hd.2.1, fun s hs => ⟨(hd.2.2 s hs).1, (hd.2.2 s hs).2.1, pairSz_of (hd.2.2 s hs).2.2.1, pairSz_of (hd.2.2 s hs).2.2.2⟩⟩
  have he : TranSz e := ⟨he.2.1, fun s hs => ⟨(he.2.2 s hs).1, pairSz_of (he.2.2 s hs).2.1, strsSz_of (he.2.2 s hs).2.2⟩⟩
  have hx : WorldSz (a, b, c, d, e) := ⟨ha, hb, hc, hd, he⟩
  have hK := strsSz_of hK
  have lK := len_big hK.1 (by omega)
  obtain ⟨h1, h2⟩ := hq
  have h2 := pairSz_of h2
  refine Ultk.some ?_
  unfold S4
  dsimp only
  refine Ult.bind (S24_spec (a, b, c, d, e) hx) (Ult.bind (S25_spec K (by have := hK.1; omega)) (Ult.bind (S26_spec q h2) ?_))
  refine Ult.bind (S27_spec c d K q hc hd hK h1 h2) (Ult.bind (S28_spec c d K q hc hd hK h1 h2) ?_)
  refine Ult.bind (S29_spec d hd) (Ult.bind (S30_spec d hd) (Ult.yes (by rw [ieq_eq]; simp) ?_))
  have hl := toolsAns_len (P := c) (T := d) (K := K) (q := q)
  refine Ult.yes (by rw [ieq_eq]; simp) (Ult.yes (by rw [seq_eq]; simp) (Ult.yes (by cases (toolsAns c d K q).2.2.1 <;> rfl) ?_))
  refine Ult.bind (S31_self _ (by omega)) (Ult.yes rfl ?_)
  refine Ult.bind (S32_self (a, b, c, d, e) hx) (Ult.yes rfl ?_)
  refine Ult.bind (S31_self K (by omega)) (Ult.yes rfl ?_)
  refine Ult.bind (S33_self q h2) (Ult.yes rfl (Ult.bind S23_spec Ult.ret))
end Go.Proofs.YtklmkonpilkfnaaDoor.Ev
