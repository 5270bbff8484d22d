/- The small evaluator's rules for conversions and function values are right (this session's own). No condition. -/
import Derived.Test.YtocgdpnealaoeaaDoorEvO
import Derived.Lib.ConvBytes
namespace Go.Proofs.YtocgdpnealaoeaaDoor.Ev
open Go.RowKit
set_option linter.unusedVariables false
set_option linter.unusedSimpArgs false

variable {P : Program} {J : Inv} {Γ : Ctx} {B : Base} {C : LBase} {βs : List Value} {st : St} {a : Act} {w : World} {obs obs' : List Ob} {wr : Nat → Bool} {tv : TV}
variable (hΓ : CtxOK P J Γ) (h : Rep' P J B βs obs w)

theorem strOf_eq (l : List Int) : strOf l = strOfNums l := by
  unfold strOf strOfNums
  rfl

include hΓ h in
theorem evConvert_ok {s d : Nat} {x : TV} {v : Value} (hx : TR P J B βs obs w x v) (he : (evConvert Γ s d x obs).To (tv, obs')) : Gives P J B βs obs wr w (convert s d v) tv obs' := by
  unfold evConvert at he
  split at he
  · rename_i j k hs hd
    split at he
    · rename_i j' n
      obtain rfl := rdv_int hx
      obtain ⟨rfl, rfl⟩ := Res.to_nowV he
      exact Gives.now h (v := .int k (iwr k n)) (by simp [convert, run_underlying (hΓ.int hs), run_underlying (hΓ.int hd), Conv.intToInt, iwr]) (mk_int _ _)
    · exact (Res.to_fail he).elim
  · rename_i hs hd
    split at he
    · rename_i s'
      obtain rfl := rdv_str hx
      obtain ⟨rfl, rfl⟩ := Res.to_nowV he
      exact Gives.now h (v := .string s') (by simp [convert, run_underlying (hΓ.str hs), run_underlying (hΓ.str hd)]) (mk_str _)
    · exact (Res.to_fail he).elim
  · rename_i hs hd
    obtain ⟨el, hu, hE⟩ := hΓ.slice hs
    have hue : P.underlying el = some (.int .u8) := hE.sc
    split at he
    · rename_i l hl
      obtain ⟨rfl, rfl⟩ := Res.to_nowV he
      obtain ⟨A, c, rfl, hc, hrow⟩ := rdv_slice (toVal_rep h.obs hx hl)
      rcases hrow with rfl | ⟨ad, rfl, hF, hcs⟩
      · refine Gives.now h (v := .string (strOf [])) ?_ (mk_str _)
        rw [strOf_eq, run_convert_bytes_string w s d el A _ c hu hue (hΓ.str hd)]
        cases A with
        | none => simp [Conv.bytesToString, strOfNums]; rfl
        | some ad => simp [Conv.bytesToString, loadCells, loadCellsFrom, strOfNums]; rfl
      · have hcell : ∀ (i : Nat) (hi : i < l.length), w.cell? (ad.add i) = some (.int .u8 (l[i])) := fun i hi => by
          obtain ⟨cs, c1, c2, c3⟩ := hcs i hi
          have c3 : cs = [.int .u8 l[i]] := c3
          have := c2 0 (by decide)
          rw [c3] at this
          simpa [Kd.sz] using this
        have hlc := run_loadCells_list (P := P) w ad (l.map (Value.int .u8)) (fun j v hj => by
          rw [List.getElem?_map] at hj
          have hjl : j < l.length := by
            rcases Nat.lt_or_ge j l.length with q | q
            · exact q
            · rw [List.getElem?_eq_none q] at hj; cases hj
          rw [List.getElem?_eq_getElem hjl] at hj
          rw [hcell j hjl]; exact hj)
        rw [List.length_map] at hlc
        refine Gives.now h (v := .string (strOf l)) ?_ (mk_str _)
        rw [strOf_eq, run_convert_bytes_string w s d el (some ad) _ c hu hue (hΓ.str hd), run_bytesToString w ad l.length c l hlc, foldl_push_bytes]
        congr 2
        simp [strOfNums]
    · exact (Res.to_fail he).elim
  · rename_i hs hd
    split at he
    · rename_i t
      obtain rfl := rdv_str hx
      obtain ⟨l, hl, he⟩ := Res.to_bind he
      obtain ⟨rfl, rfl⟩ := Res.to_nowV he
      obtain ⟨hlim, rfl⟩ := app?_some hl
      obtain ⟨el, hu, hE⟩ := hΓ.slice hd
      have hue : P.underlying el = some (.int .u8) := hE.sc
      have hlen : (bytesOf t).length = t.size := by simp [bytesOf]
      have hrun := Lib.run_convert_string_bytes (P := P) w s d el t (hΓ.str hs) hu hue
      have hcap := grownCap_ge w t.size 0 el
      have hcs : (Lib.bytesCells w el t).size = grownCap w t.size 0 el := by
        simp [Lib.bytesCells]
        have : t.data.size = t.size := rfl
        omega
      refine Gives.label h hrun (h.fresh (.inl rfl) rfl rfl rfl (by rw [Lib.bytesWorld_size]; omega) (fun b hb _ => Lib.bytesWorld_at_old w el t b hb) (fun b hb _ => Lib.bytesWorld_at_old w el t b hb) (fun b _ hb => ?_)
        (fun hF => .inr ⟨w.heap.size, 0, grownCap w t.size 0 el, Lib.bytesCells w el t, el, ((Lib.bytesCells w el t).size, (Lib.bytesCells w el t).size + 1), by rw [List.nil_append, hlen], Lib.bytesWorld_at_new w el t, fun o ho => ?_, by rw [hcs]; simp [Kd.sz], by rw [List.nil_append, hlen]; exact hcap, fun i hi => ?_⟩))
      · cases hb
        exact ⟨.inl (Nat.le_refl _), by rw [Lib.bytesWorld_size]; show w.heap.size < _; omega⟩
      · have ho : o < (Lib.bytesCells w el t).size := ho
        simp; omega
      · rw [List.nil_append, hlen] at hi
        refine ⟨[.int .u8 ((bytesOf t)[i]'(by rw [hlen]; exact hi))], rfl, fun j hj => ?_, by simp only [List.nil_append]; rfl⟩
        have : j = 0 := by simp [Kd.sz] at hj; omega
        subst this
        have hd' : i < t.data.size := hi
        simp [Lib.bytesCells, Kd.sz, bytesOf, Array.getElem?_append]
        rw [if_pos hi, Array.getElem?_eq_getElem hd']
        rfl
    · exact (Res.to_fail he).elim
  · exact (Res.to_fail he).elim

end Go.Proofs.YtocgdpnealaoeaaDoor.Ev
