/- Fits: the program's and the reference's compute one plain function. Conditions: the strings' lengths are as strings' lengths can be. -/
import Derived.Test.YtjdfbpjbobmgdaaDoorPatPathC
namespace Go.Proofs.YtjdfbpjbobmgdaaDoor.PurePat
open Go.RowKit Go.Proofs.YtjdfbpjbobmgdaaDoor.QPat Go.Proofs.YtjdfbpjbobmgdaaDoorW.PrintWords Go.Proofs.YtjdfbpjbobmgdaaDoorW.PrintLast Go.Proofs.YtjdfbpjbobmgdaaDoorW.PrintMore Go.Proofs.YtjdfbpjbobmgdaaDoor.Pure

theorem chk_size {a : ByteArray} (h : chk a = 0) : a.size ≤ 200 := by
  unfold chk at h
  split at h
  · omega
  · simp at h
theorem isPth_size {a : ByteArray} (h : isPth a = true) : a.size ≤ 200 := by
  unfold isPth at h
  split at h
  · omega
  · simp at h
def pathFit (p a : ByteArray) : Bool := fitS (sp p) (sp a)
def fitR (p a : ByteArray) : Bool × Int := if chk p = 0 then (if isPth a = true then (pathFit p a, 0) else (false, 3)) else (false, chk p)
theorem pathFits_ev (p a : ByteArray) (hp : p.size ≤ 200) (ha : a.size ≤ 200) : Ev (fun n => blob_pathFits.f n p a) (pathFit p a) := by
  unfold blob_pathFits.f
  exact Ev.bindc (split_some p (by omega)) (Ev.bindc (split_some a (by omega)) (Ev.bindk (fs_ev _ _ (sp_short p hp) (sp_short a ha)) (Ev.now _)))
theorem fitsOf_ev (p a : ByteArray) (hp : p.size ≤ 200) (ha : a.size ≤ 200) : Ev (fun n => smithyardref1_FitsOf.f n p a) (pathFit p a) := by
  have hx := sp_short a ha
  have hl := hx.1
  unfold smithyardref1_FitsOf.f
  refine Ev.bindc (split_some a (by omega)) ?_
  have hws := w1 (sp a).length (by omega)
  have c3 : (0 : Int) < ((List.replicate ((sp a).length + 1) false).length : Int) := by rw [List.length_replicate]; omega
  have key := rs_l0 (sp a) hx (sp p) (sp_short p hp) (sp p).length 0 ((List.replicate ((sp a).length + 1) false).set 0 true) (by simp) (by omega)
  rw [List.drop_zero] at key
  rw [hws, Int.toNat_natCast]
  exact Ev.ite_pos (Int.natCast_nonneg _) (Ev.ite_pos (by omega) (Ev.bindc rfl (Ev.ite_pos c3 (Ev.bindc (split_some p (by omega)) key))))
theorem fits_ev (p a : ByteArray) : Ev (fun n => blob_Fits.f n p a) (fitR p a) := by
  unfold blob_Fits.f fitR
  refine Ev.bindk (chk_ev p) ?_
  by_cases h : chk p = 0
  · rw [if_pos h]
    refine Ev.ite_pos h (Ev.bindk (isPath_ev a) ?_)
    by_cases h2 : isPth a = true
    · rw [if_pos h2]
      exact Ev.ite_pos h2 (Ev.bindk (pathFits_ev p a (chk_size h) (isPth_size h2)) (Ev.now _))
    · rw [if_neg h2]
      exact Ev.ite_neg h2 (Ev.now _)
  · rw [if_neg h]
    exact Ev.ite_neg h (Ev.now _)
theorem reffits_ev (p a : ByteArray) : Ev (fun n => smithyardref1_Fits.f n p a) (fitR p a) := by
  unfold smithyardref1_Fits.f fitR
  refine Ev.bindk (refChk_ev p) ?_
  by_cases h : chk p = 0
  · rw [if_pos h]
    refine Ev.ite_pos h (Ev.bindk (refIsPath_ev a) ?_)
    by_cases h2 : isPth a = true
    · rw [if_pos h2]
      exact Ev.ite_pos h2 (Ev.bindk (fitsOf_ev p a (chk_size h) (isPth_size h2)) (Ev.now _))
    · rw [if_neg h2]
      exact Ev.ite_neg h2 (Ev.now _)
  · rw [if_neg h]
    exact Ev.ite_neg h (Ev.now _)

end Go.Proofs.YtjdfbpjbobmgdaaDoor.PurePat
