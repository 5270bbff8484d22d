/- The small evaluator's rule for append is right (this session's own). No condition. -/
import Derived.Lib.AppendZeros
import Derived.Test.YtbliiipcjbmbiaaGreatDoorEvB
namespace Go.Proofs.YtbliiipcjbmbiaaGreatDoor.Ev
open Go.RowKit
set_option linter.unusedVariables false
set_option linter.unusedSimpArgs false

variable {P : Program} {J : Inv} {Γ : Ctx} {B : Base} {C : LBase} {βs : List Value} {st : St} {a : Act} {w : World} {obs obs' : List Ob} {wr : Nat → Bool} {tv : TV}
variable (hΓ : CtxOK P J Γ) (h : Rep' P J B βs obs w)

theorem app?_some {α : Type} {bytes : Nat} {l r q : List α} (h : app? bytes l r = some q) : (l.length + r.length) * (max bytes 1) ≤ 140737488355328 ∧ q = l ++ r := by
  unfold app? at h
  split at h
  · rename_i h0; exact ⟨h0, (Option.some.inj h).symm⟩
  · cases h

/-- the cells of a row of elements -/
theorem row_cells {F : Nat → Prop} {e : Kd} {ad : Addr} {xs : List e.T} (h : ∀ (i : Nat) (hi : i < xs.length), ∃ cs : List Value, cs.length = e.sz ∧ (∀ j, j < e.sz → w.cell? (ad.add (i * e.sz + j)) = cs[j]?) ∧ Rd w F e cs xs[i]) :
    ∃ news : List Value, news.length = xs.length * e.sz ∧ (∀ j u, news[j]? = some u → w.cell? (ad.add j) = some u) ∧ (∀ u ∈ news, u.oneCell' = true) ∧ ∀ (i : Nat) (hi : i < xs.length), Rd w F e ((news.drop (i * e.sz)).take e.sz) xs[i] := by
  have hcell : ∀ j, j < xs.length * e.sz → ∃ u, w.cell? (ad.add j) = some u ∧ u.oneCell' = true := fun j hj => by
    have hsz : 0 < e.sz := by
      rcases Nat.eq_zero_or_pos e.sz with h0 | h0
      · rw [h0] at hj; omega
      · exact h0
    have hi : j / e.sz < xs.length := (Nat.div_lt_iff_lt_mul hsz).2 hj
    obtain ⟨cs, c1, c2, c3⟩ := h _ hi
    have hm := Nat.mod_lt j hsz
    have := c2 (j % e.sz) hm
    rw [show j / e.sz * e.sz + j % e.sz = j by rw [Nat.mul_comm]; exact Nat.div_add_mod j e.sz] at this
    rw [List.getElem?_eq_getElem (show j % e.sz < cs.length by omega)] at this
    exact ⟨_, this, Rd.one c3 _ (List.getElem_mem _)⟩
  refine ⟨(List.range (xs.length * e.sz)).map fun j => (w.cell? (ad.add j)).getD undef, by simp, fun j u hj => ?_, fun u hu => ?_, fun i hi => ?_⟩
  · rw [List.getElem?_map] at hj
    have hlt : j < xs.length * e.sz := by
      rcases Nat.lt_or_ge j (xs.length * e.sz) with q | q
      · exact q
      · rw [List.getElem?_eq_none (by simpa using q)] at hj; cases hj
    obtain ⟨u', h1, _⟩ := hcell j hlt
    rw [List.getElem?_range hlt] at hj
    simp only [Option.map_some, h1, Option.getD_some, Option.some.injEq] at hj
    rw [h1, hj]
  · obtain ⟨j, hj, rfl⟩ := List.mem_map.1 hu
    obtain ⟨u', h1, h2⟩ := hcell j (List.mem_range.1 hj)
    rw [h1]; exact h2
  · obtain ⟨cs, c1, c2, c3⟩ := h i hi
    have : (((List.range (xs.length * e.sz)).map fun j => (w.cell? (ad.add j)).getD undef).drop (i * e.sz)).take e.sz = cs := by
      apply List.ext_getElem?
      intro j
      have hle : (i + 1) * e.sz ≤ xs.length * e.sz := Nat.mul_le_mul_right _ hi
      rw [Nat.add_mul] at hle
      by_cases hj : j < e.sz
      · rw [List.getElem?_take, if_pos hj, List.getElem?_drop, List.getElem?_map, List.getElem?_range (by omega)]
        simp only [Option.map_some]
        rw [c2 j hj, List.getElem?_eq_getElem (show j < cs.length by omega)]
        rfl
      · rw [List.getElem?_take, if_neg hj, List.getElem?_eq_none (by omega)]
    rw [this]; exact c3

theorem take_drop_rows {α : Type} (l1 l2 : List α) (sz i : Nat) (n : Nat) (h1 : l1.length = n * sz) (hi : i < n) : (((l1 ++ l2).drop (i * sz)).take sz) = (l1.drop (i * sz)).take sz := by
  have hle : (i + 1) * sz ≤ n * sz := Nat.mul_le_mul_right _ hi
  rw [Nat.add_mul] at hle
  rw [List.drop_append_of_le_length (by omega), List.take_append_of_le_length (by rw [List.length_drop]; omega)]

theorem append_core (h : Rep' P J B βs obs w) {t tx ty el : Nat} {e : Kd} {bytes : Nat} {obs1 : List Ob} (hu : P.underlying t = some (.slice el)) (hE : ElOK P el e) (hby : ∀ i, P.info? el = some i → i.bytes = bytes)
    {v x : Value} {l ys : List e.T} {news : List Value} (hsrc : Src P e.sz tx x ys.length news w) (hnews : ∀ (i : Nat) (hi : i < ys.length), Rd w (Fz B βs obs w) e ((news.drop (i * e.sz)).take e.sz) ys[i])
    (hlim : (l.length + ys.length) * (max bytes 1) ≤ 140737488355328)
    (hs : (v = .slice none 0 0 ∧ l = [] ∧ obs1 = obs) ∨ ∃ L, L < obs.length ∧ wr L = true ∧ obs1 = obs.set L .dead ∧ v = bv βs L ∧ getOb obs L = .arr e l) :
    Gives P J B βs obs wr w (Builtin.append_ #[t, tx] ty #[v, x]) (.arr obs.length) (obs1 ++ [.arr e (l ++ ys)]) := by
  obtain ⟨i, i1, i2, z, i3, i4⟩ := hE.info
  have hib := hby i i1
  have hz := valCells_cells i4 (Kd.zero_one e)
  have hzs : z.cells.size = e.sz := by rw [← Array.length_toList, hz, Kd.zeroCells_length]
  have hlb : (l.length + ys.length) * bytes ≤ 140737488355328 := Nat.le_trans (Nat.mul_le_mul_left _ (Nat.le_max_left _ _)) hlim
  have hl1 : l.length + ys.length ≤ 140737488355328 := by
    have := Nat.mul_le_mul_left (l.length + ys.length) (Nat.le_max_right bytes 1)
    omega
  have hob1 : obs1 = obs ∨ ∃ L, L < obs.length ∧ wr L = true ∧ obs1 = obs.set L .dead := by
    rcases hs with ⟨_, _, h1⟩ | ⟨L, h1, h2, h3, _⟩
    · exact .inl h1
    · exact .inr ⟨L, h1, h2, h3⟩
  -- the value of the first argument
  have hv : (v = .slice none 0 0 ∧ l = []) ∨ ∃ L b off cap c tt fr, L < obs.length ∧ wr L = true ∧ obs1 = obs.set L .dead ∧ v = bv βs L ∧ getOb obs L = .arr e l ∧ v = .slice (some ⟨b, off, none⟩) l.length cap ∧ w.heap[b]? = some (.cells c tt fr) ∧ NF fr (c.size + e.ex) ∧ off + cap * e.sz ≤ c.size ∧ l.length ≤ cap ∧
      ∀ (i : Nat) (hi : i < l.length), ∃ cs : List Value, cs.length = e.sz ∧ (∀ j, j < e.sz → c[off + (i * e.sz + j)]? = cs[j]?) ∧ Rd w (Fz B βs obs w) e cs l[i] := by
    rcases hs with ⟨h1, h2, _⟩ | ⟨L, h1, h2, h3, h4, h5⟩
    · exact .inl ⟨h1, h2⟩
    · have hr := h.obs.rep L (by rw [h.obs.len]; exact h1)
      rw [h5] at hr
      rcases hr with ⟨q1, q2⟩ | ⟨b, off, cap, c, tt, fr, q1, q2, q3, q4, q5, q6⟩
      · exact .inl ⟨h4.trans q1, q2⟩
      · exact .inr ⟨L, b, off, cap, c, tt, fr, h1, h2, h3, h4, h5, h4.trans q1, q2, q3, q4, q5, q6⟩
  -- the arm that grows
  have grow : ∀ (base : Option Addr) (sCap : Nat) (olds : List Value), v = .slice base l.length sCap → sCap < l.length + ys.length → olds.length = l.length * e.sz →
      (Builtin.firstCells i.size l.length (.slice base l.length sCap)).run P w.drew = .ok olds.toArray w.drew →
      (∀ (i : Nat) (hi : i < l.length), Rd w (Fz B βs obs w) e ((olds.drop (i * e.sz)).take e.sz) l[i]) →
      Gives P J B βs obs wr w (Builtin.append_ #[t, tx] ty #[v, x]) (.arr obs.length) (obs1 ++ [.arr e (l ++ ys)]) := by
    intro base sCap olds hvv hg hol hold hrd
    have hrun := run_append_grow_src (P := P) w t tx ty el i z hu i1 i3 base l.length sCap olds hold x ys.length news (by rw [i2]; exact hsrc) hg (by omega) (by
      rw [hib]; exact growslice_fits hg hlb)
    have hcap := grownCap_ge w (l.length + ys.length) sCap el
    have hnl := hsrc.newsLen
    obtain ⟨f1, f2, f3⟩ := alloc_facts w.drew (.cells ((olds ++ news).toArray ++ Builtin.zeroCells z.cells (grownCap w (l.length + ys.length) sCap el - (l.length + ys.length))) el)
    have hll : (l ++ ys).length = l.length + ys.length := List.length_append
    rw [← hvv, ← hll] at hrun
    refine newArr h hob1 hrun (by rw [hll]; exact f2) rfl rfl rfl (by rw [hll]; exact f1) (by rw [hll]; exact f3) (by rw [hll]; exact hcap) ?_ (fun q hq => ?_)
    · rw [hll]
      simp only [Array.size_append, List.size_toArray, List.length_append, size_zeroCells, hzs, hol, hnl, ← Nat.add_mul]
      exact Nat.mul_le_mul_right _ (by omega)
    · have hcell : ∀ j, j < e.sz → ((olds ++ news).toArray ++ Builtin.zeroCells z.cells (grownCap w (l.length + ys.length) sCap el - (l.length + ys.length)))[q * e.sz + j]? = (((olds ++ news).drop (q * e.sz)).take e.sz)[j]? := fun j hj => by
        have hle : (q + 1) * e.sz ≤ (l ++ ys).length * e.sz := Nat.mul_le_mul_right _ hq
        rw [Nat.add_mul, hll, Nat.add_mul] at hle
        rw [Array.getElem?_append_left (by simp [hol, hnl]; omega), List.getElem?_toArray, List.getElem?_take, if_pos hj, List.getElem?_drop]
      by_cases hql : q < l.length
      · refine ⟨_, ?_, hcell, ?_⟩
        · rw [take_drop_rows _ _ _ _ _ hol hql, List.length_take, List.length_drop, hol]
          have hle : (q + 1) * e.sz ≤ l.length * e.sz := Nat.mul_le_mul_right _ hql
          rw [Nat.add_mul] at hle; omega
        · rw [take_drop_rows _ _ _ _ _ hol hql, List.getElem_append_left hql]
          exact hrd q hql
      · have hqy : q - l.length < ys.length := by rw [hll] at hq; omega
        have hd : (olds ++ news).drop (q * e.sz) = news.drop ((q - l.length) * e.sz) := by
          rw [List.drop_append, List.drop_eq_nil_of_le (by rw [hol]; exact Nat.mul_le_mul_right _ (by omega)), List.nil_append, hol, ← Nat.sub_mul]
        refine ⟨_, ?_, hcell, ?_⟩
        · rw [hd, List.length_take, List.length_drop, hnl]
          have hle : (q - l.length + 1) * e.sz ≤ ys.length * e.sz := Nat.mul_le_mul_right _ hqy
          rw [Nat.add_mul] at hle; omega
        · rw [hd, List.getElem_append_right (by omega)]
          exact hnews _ hqy
  rcases hv with ⟨rfl, rfl⟩ | ⟨L, b, off, cap, c, tt, fr, hL, hw, ho1, hvb, hoL, rfl, q2, q3, q4, q5, q6⟩
  · by_cases hy : ys.length = 0
    · obtain rfl : ys = [] := List.eq_nil_of_length_eq_zero hy
      have hn : news = [] := List.eq_nil_of_length_eq_zero (by simpa using hsrc.newsLen)
      subst hn
      have hrun : (Builtin.append_ #[t, tx] ty #[.slice none 0 0, x]).run P w = .ok (.slice none 0 0) w := by
        have hc := hsrc.cells
        have hlen := hsrc.len w
        rcases hsrc.kind with ⟨e', hk⟩ | hk <;> simp [Builtin.append_, run_underlying hu, run_underlying hk, sizeOf, typeInfo, i1, i2] <;> simp at hc hlen <;> simp [hlen, hc]
      exact Gives.label h hrun (h.fresh hob1 rfl rfl rfl (Nat.le_refl _) (fun _ _ _ => rfl) (fun _ _ _ => rfl) (fun q _ hq => by cases hq) (fun _ => .inl ⟨rfl, rfl⟩))
    · exact grow none 0 [] rfl (by simp only [List.length_nil]; omega) (by simp) (run_firstCells_none w.drew _ 0 0 0) (fun i hi => by cases hi)
  · obtain ⟨olds, o1, o2, o3, o4⟩ := row_cells (w := w) (F := Fz B βs obs w) (ad := ⟨b, off, none⟩) (xs := l) (fun i hi => by
      obtain ⟨cs, c1, c2, c3⟩ := q6 i hi
      exact ⟨cs, c1, fun j hj => by rw [Addr.add_mid, cell_of q2]; exact c2 j hj, c3⟩)
    by_cases hroom : l.length + ys.length ≤ cap
    · have hnl := hsrc.newsLen
      have hfit : off + l.length * e.sz + news.length ≤ c.size := by
        have : (l.length + ys.length) * e.sz ≤ cap * e.sz := Nat.mul_le_mul_right _ hroom
        rw [Nat.add_mul] at this; omega
      have hrun := run_append_room_src (P := P) w t tx ty el i hu i1 b off l.length cap x ys.length news (by rw [i2]; exact hsrc) hroom (fun j hj => by
          rw [cell_of q2, i2, Array.getElem?_eq_getElem (by omega)]; rfl) (fun j hj => by
          have := q3 (off + l.length * i.size + j) (by rw [i2]; omega)
          simp only [World.frozen?, q2]
          exact this)
      rw [i2] at hrun
      have hLb : L < βs.length := by rw [h.obs.len]; exact hL
      have hown : Own βs obs b := ⟨L, hLb, by rw [hoL]; rfl, by rw [← hvb]; rfl⟩
      have hnown : ¬ Own βs obs1 b := by
        rw [ho1]
        rintro ⟨M, hM, p1, p2⟩
        rw [getOb_set hL] at p1
        by_cases e' : L = M
        · rw [if_pos e'] at p1; cases p1
        · rw [if_neg e'] at p1
          exact e' (h.inj L M b hLb hM (by rw [hoL]; rfl) p1 (by rw [← hvb]; rfl) p2)
      have hll : (l ++ ys).length = l.length + ys.length := List.length_append
      refine Gives.label h hrun (h.fresh hob1 (setCells_rest b news _ w).1 (setCells_rest b news _ w).2.1 (setCells_rest b news _ w).2.2 (Nat.le_of_eq (setCells_size b news _ w).symm) (fun k _ hk => heap_setCells_other b news _ w k (fun e' => hk (e' ▸ hown))) (fun k _ hk => heap_setCells_other b news _ w k (fun e' => hnown (e' ▸ hk))) (fun k _ hk => ?_)
        (fun hF => .inr ⟨b, off, cap, putCells c (off + l.length * e.sz) news, tt, fr, by rw [hll], heap_setCells_same b news _ w c tt fr q2, by rw [putCells_size]; exact q3, by rw [putCells_size]; exact q4, by omega, fun q hq => ?_⟩))
      · cases hk
        refine ⟨.inr ⟨hown, hnown⟩, ?_⟩
        rw [setCells_size]; exact (h.own b hown).2
      · have hg := fun j => putCells_get news c (off + l.length * e.sz) (off + (q * e.sz + j)) hfit
        by_cases hql : q < l.length
        · obtain ⟨cs, c1, c2, c3⟩ := q6 q hql
          have hle : (q + 1) * e.sz ≤ l.length * e.sz := Nat.mul_le_mul_right _ hql
          rw [Nat.add_mul] at hle
          refine ⟨cs, c1, fun j hj => by rw [hg j, if_neg (by omega)]; exact c2 j hj, ?_⟩
          rw [List.getElem_append_left hql]; exact Rd.mono hF c3
        · have hqy : q - l.length < ys.length := by rw [hll] at hq; omega
          have hle : (q - l.length + 1) * e.sz ≤ ys.length * e.sz := Nat.mul_le_mul_right _ hqy
          rw [Nat.add_mul] at hle
          have hqe : q * e.sz = l.length * e.sz + (q - l.length) * e.sz := by rw [← Nat.add_mul]; congr 1; omega
          refine ⟨_, ?_, fun j hj => ?_, by rw [List.getElem_append_right (by omega)]; exact Rd.mono hF (hnews _ hqy)⟩
          · rw [List.length_take, List.length_drop, hnl]; omega
          · rw [hg j, if_pos (by omega), List.getElem?_take, if_pos hj, List.getElem?_drop]
            congr 1; omega
    · exact grow _ cap olds rfl (by omega) o1 (by
        rw [i2]
        exact run_firstCells_some (P := P) w.drew e.sz l.length ⟨b, off, none⟩ l.length cap olds o1 (fun j u hj => by simpa using o2 j u hj)) o4

theorem byteCells_rd {F : Nat → Prop} (s : ByteArray) : ∀ (i : Nat) (hi : i < (bytesOf s).length), Rd w F (.int .u8) (((byteCells s).drop (i * 1)).take 1) (bytesOf s)[i] := by
  intro i hi
  have h1 : (byteCells s)[i]? = some (.int .u8 (bytesOf s)[i]) := by
    have hi' : i < s.data.toList.length := by simpa [bytesOf] using hi
    simp only [byteCells, bytesOf, List.getElem?_map, List.getElem_map, List.getElem?_eq_getElem hi', Option.map_some]
  have h2 : i < (byteCells s).length := (List.getElem?_eq_some_iff.1 h1).1
  have h3 : (byteCells s)[i] = .int .u8 (bytesOf s)[i] := (List.getElem?_eq_some_iff.1 h1).2
  rw [Nat.mul_one, List.drop_eq_getElem_cons h2, h3]
  rfl

/-- what is appended -/
theorem tail_src (hΓ : CtxOK P J Γ) (h : Rep' P J B βs obs w) {e : Kd} {tx : Nat} {x : TV} {v : Value} {ys : List e.T} {obs1 : List Ob} (hx : TR P J B βs obs w x v) (ht : tailOf Γ e tx x obs = some ys)
    (hf : (if e.flat then some obs else frz1 wr x obs) = some obs1) :
    Step B βs obs wr w βs obs1 w ∧ ∃ news, Src P e.sz tx v ys.length news w ∧ ∀ (i : Nat) (hi : i < ys.length), Rd w (Fz B βs obs1 w) e ((news.drop (i * e.sz)).take e.sz) ys[i] := by
  have hs : Step B βs obs wr w βs obs1 w := by
    split at hf
    · cases hf; exact h.step_refl _
    · exact frz1_step h hf
  refine ⟨hs, ?_⟩
  unfold tailOf at ht
  split at ht
  · rename_i hk
    split at ht
    · rename_i s
      obtain ⟨e1, h1⟩ := Kd.cast_some ht
      cases e1
      obtain rfl : bytesOf s = ys := h1
      obtain rfl := rdv_str hx
      have hlen : (bytesOf s).length = s.size := by
        have := byteCells_length s
        simp [bytesOf]
      refine ⟨byteCells s, ?_, byteCells_rd s⟩
      rw [hlen]
      exact Src.ofString w (hΓ.str hk) s
    · cases ht
  · rename_i e' hk
    split at ht
    · rename_i heq _
      obtain ⟨rfl⟩ := heq
      obtain ⟨el, hu, hE⟩ := hΓ.slice hk
      have hrd : ∃ F, (∀ b, F b → e'.flat = true ∨ Fz B βs obs1 w b) ∧ RdV w F (.slice e') v ys := by
        split at hf
        · rename_i hfl
          cases hf
          exact ⟨_, fun b _ => .inl hfl, toVal_rep h.obs hx ht⟩
        · obtain ⟨hrel, hst⟩ := frz1_rel hf
          exact ⟨_, fun b hb => .inr hb, (toVal_behind h hs hrel hst hx ht).1⟩
      obtain ⟨F, hF, hv⟩ := hrd
      have conv : ∀ {cs : List Value} {y : e'.T}, Rd w F e' cs y → Rd w (Fz B βs obs1 w) e' cs y := fun {cs y} hr => by
        cases hfl : e'.flat with
        | true => exact Rd.flat_ hfl hr
        | false => exact Rd.mono (fun b hb => ⟨(hF b hb).resolve_left (by simp [hfl]), rfl⟩) hr
      obtain ⟨A, c, rfl, hc, hrow⟩ := rdv_slice hv
      rcases hrow with rfl | ⟨ad, rfl, hfr, hcs⟩
      · cases A with
        | none => exact ⟨[], Src.ofNil w hu c, fun i hi => by cases hi⟩
        | some ad => exact ⟨[], Src.ofSlice w hu ad 0 c [] (by simp) (fun j u hj => by simp at hj) (fun u hu => by cases hu), fun i hi => by cases hi⟩
      · obtain ⟨news, n1, n2, n3, n4⟩ := row_cells hcs
        exact ⟨news, Src.ofSlice w hu ad _ c news n1 n2 n3, fun i hi => conv (n4 i hi)⟩
    · cases ht
  · cases ht

include hΓ h in
theorem evAppend_ok {t tx ty : Nat} {s x : TV} {v u : Value} (hsv : TR P J B βs obs w s v) (hx : TR P J B βs obs w x u) (he : (evAppend Γ wr t tx s x obs).To (tv, obs')) :
    Gives P J B βs obs wr w (Builtin.append_ #[t, tx] ty #[v, u]) tv obs' := by
  unfold evAppend at he
  split at he
  · rename_i e f k el bytes hk
    obtain ⟨hu, hE, hby⟩ := hΓ.sliceB hk
    split at he
    · rename_i ys obs1 hys hf
      obtain ⟨hs, news, n1, n2⟩ := tail_src hΓ h hx hys hf
      have h1 := hs.rep' h
      have fin : ∀ {l : List e.T} {obs2 : List Ob}, (l.length + ys.length) * (max bytes 1) ≤ 140737488355328 → ((v = .slice none 0 0 ∧ l = [] ∧ obs2 = obs1) ∨ ∃ L, L < obs1.length ∧ wr L = true ∧ obs2 = obs1.set L .dead ∧ v = bv βs L ∧ getOb obs1 L = .arr e l) →
          Gives P J B βs obs wr w (Builtin.append_ #[t, tx] ty #[v, u]) (.arr obs1.length) (obs2 ++ [.arr e (l ++ ys)]) := fun hl hh => by
        obtain ⟨b, q, w', k1, k2, k3⟩ := append_core (wr := wr) h1 (ty := ty) hu hE hby n1 n2 hl hh
        exact ⟨b, q, w', k1, hs.trans k2, k3⟩
      split at he
      · obtain ⟨r, hr, he⟩ := Res.to_bind he
        obtain ⟨rfl, rfl⟩ := Res.to_nowV he
        obtain ⟨hl, rfl⟩ := app?_some hr
        exact fin hl (.inl ⟨hsv, rfl, rfl⟩)
      · obtain ⟨r, hr, he⟩ := Res.to_bind he
        obtain ⟨rfl, rfl⟩ := Res.to_nowV he
        obtain ⟨hl, rfl⟩ := app?_some hr
        exact fin hl (.inl ⟨hsv, rfl, rfl⟩)
      · rename_i L
        obtain ⟨hL, rfl⟩ := hsv
        split at he
        · rename_i hw
          split at he
          · rename_i e' l ho
            split at he
            · rename_i l' hc
              obtain ⟨rfl, hll⟩ := cast_slice hc
              obtain rfl : l = l' := hll
              obtain ⟨r, hr, he⟩ := Res.to_bind he
              obtain ⟨rfl, rfl⟩ := Res.to_nowV he
              obtain ⟨hl, rfl⟩ := app?_some hr
              exact fin hl (.inr ⟨L, getOb_lt ho rfl, hw, rfl, rfl, ho⟩)
            · exact (Res.to_fail he).elim
          · exact (Res.to_fail he).elim
        · exact (Res.to_fail he).elim
      · exact (Res.to_fail he).elim
    · exact (Res.to_fail he).elim
  · exact (Res.to_fail he).elim

include hΓ h in
theorem evLen_ok {t ty : Nat} {x : TV} {v : Value} (hx : TR P J B βs obs w x v) (he : (evLen Γ t x obs).To (tv, obs')) : Gives P J B βs obs wr w (Builtin.len_ #[t] ty #[v]) tv obs' := by
  unfold evLen at he
  split at he
  · rename_i hk
    split at he
    · rename_i s
      obtain rfl := rdv_str hx
      obtain ⟨rfl, rfl⟩ := Res.to_nowV he
      exact Gives.now h (v := .int .i64 (ssz s)) (by simp [Builtin.len_, run_underlying (hΓ.str hk), goInt, ssz]) (mk_int _ _)
    · exact (Res.to_fail he).elim
  · rename_i e hk
    obtain ⟨el, hu, hE⟩ := hΓ.slice hk
    split at he
    · rename_i e' l
      obtain ⟨rfl, rfl⟩ := Res.to_nowV he
      obtain ⟨A, c, rfl, _⟩ := rdv_slice hx
      exact Gives.now h (v := .int .i64 (len l)) (by simp [Builtin.len_, run_underlying hu, goInt, len]) (mk_int _ _)
    · rename_i e' l
      obtain ⟨rfl, rfl⟩ := Res.to_nowV he
      obtain ⟨A, c, rfl, _⟩ := rdv_oslice hx
      exact Gives.now h (v := .int .i64 (olen l)) (by simp [Builtin.len_, run_underlying hu, goInt, olen]) (mk_int _ _)
    · split at he
      · rename_i l hl
        obtain ⟨rfl, rfl⟩ := Res.to_nowV he
        obtain ⟨A, c, rfl, _⟩ := rdv_slice (toVal_rep h.obs hx hl)
        exact Gives.now h (v := .int .i64 (len l)) (by simp [Builtin.len_, run_underlying hu, goInt, len]) (mk_int _ _)
      · exact (Res.to_fail he).elim
  · rename_i e hk
    obtain ⟨el, hu⟩ := hΓ.oslice hk
    split at he
    · rename_i e' l
      obtain ⟨rfl, rfl⟩ := Res.to_nowV he
      obtain ⟨A, c, rfl, _⟩ := rdv_slice hx
      exact Gives.now h (v := .int .i64 (len l)) (by simp [Builtin.len_, run_underlying hu, goInt, len]) (mk_int _ _)
    · rename_i e' l
      obtain ⟨rfl, rfl⟩ := Res.to_nowV he
      obtain ⟨A, c, rfl, _⟩ := rdv_oslice hx
      exact Gives.now h (v := .int .i64 (olen l)) (by simp [Builtin.len_, run_underlying hu, goInt, olen]) (mk_int _ _)
    · exact (Res.to_fail he).elim
  · rename_i kk kv hk
    obtain ⟨tk, te, hu, _⟩ := hΓ.map hk
    split at he
    · rename_i l hl
      obtain ⟨rfl, rfl⟩ := Res.to_nowV he
      rcases rdv_map (toVal_rep h.obs hx hl) with ⟨rfl, rfl⟩ | ⟨r, rfl, _, es, clock, q1, q2, _⟩
      · exact Gives.now h (v := .int .i64 (len [])) (by simp [Builtin.len_, run_underlying hu, goInt, len]) (mk_int _ _)
      · have hget : (getObj r).run P w = .ok (.map es clock) w := by simp [getObj, Sem.run, q1]
        exact Gives.now h (v := .int .i64 (len l)) (by simp [Builtin.len_, run_underlying hu, hget, goInt, len, q2]) (mk_int _ _)
    · exact (Res.to_fail he).elim
  · exact (Res.to_fail he).elim

include hΓ h in
theorem evAppendZ_ok {t tx ty : Nat} {kn : IntKind} {s x : TV} {v u : Value} (hkn : kindOf Γ tx = some (.int kn)) (hsv : TR P J B βs obs w s v) (hx : TR P J B βs obs w x u) (he : (evAppendZ Γ t s x obs).To (tv, obs')) :
    Gives P J B βs obs wr w (Builtin.append_ #[t, tx] ty #[v, u]) tv obs' := by
  unfold evAppendZ at he
  split at he
  · rename_i e f k el bytes hk
    obtain ⟨hu, hE, hby⟩ := hΓ.sliceB hk
    split at he
    · rename_i e' j m hsz
      have hsz : 0 < e.sz := by simpa [Nat.blt_eq] using hsz
      obtain rfl := rdv_int hx
      obtain rfl : v = .slice none 0 0 := hsv
      obtain ⟨_, hin, he⟩ := Res.to_bind he
      obtain ⟨l, hl, he⟩ := Res.to_bind he
      obtain ⟨rfl, rfl⟩ := Res.to_nowV he
      have hpos : 0 < m := by
        unfold inb at hin
        split at hin
        · rename_i q; exact q.2
        · cases hin
      obtain ⟨_, h0, hlim, rfl⟩ := mk?_some hl
      obtain ⟨i, i1, i2, z, i3, i4⟩ := hE.info
      have hib := hby i i1
      have hz := valCells_cells i4 (Kd.zero_one e)
      have hzs : z.cells.size = e.sz := by rw [← Array.length_toList, hz, Kd.zeroCells_length]
      have hb1 : m.toNat * bytes ≤ 140737488355328 := Nat.le_trans (Nat.mul_le_mul_left _ (Nat.le_max_left _ _)) hlim
      have hb2 : m.toNat ≤ 140737488355328 := by
        have := Nat.mul_le_mul_left m.toNat (Nat.le_max_right bytes 1)
        omega
      have hm : m = (m.toNat : Int) := (Int.toNat_of_nonneg h0).symm
      have hsc : P.underlying tx = some (.int kn) := hΓ.int hkn
      have hm0 : 0 < m.toNat := by
        rcases Nat.eq_zero_or_pos m.toNat with q | q
        · exact absurd hpos (Int.not_lt.2 (Int.toNat_eq_zero.1 q))
        · exact q
      have hrun := Lib.run_append_nil_zeros (P := P) w t tx ty el i z j kn hu hsc i1 i3 m.toNat hm0 (by rw [i2]; exact hsz) (by omega) (by rw [hib]; omega)
      rw [← hm] at hrun
      have hlen : (List.replicate m.toNat e.dflt).length = m.toNat := List.length_replicate
      have hcap := grownCap_ge w m.toNat 0 el
      obtain ⟨f1, f2, f3⟩ := alloc_facts w.drew (.cells (Builtin.zeroCells z.cells m.toNat ++ Builtin.zeroCells z.cells (grownCap w m.toNat 0 el - m.toNat)) el)
      refine newArr h (l := List.replicate m.toNat e.dflt) (.inl rfl) (by rw [hlen]; exact hrun) f2 rfl rfl rfl f1 f3 (by rw [hlen]; exact hcap) ?_ (fun q hq => ⟨e.zeroCells, Kd.zeroCells_length e, fun p hp => ?_, ?_⟩)
      · rw [Array.size_append, size_zeroCells, size_zeroCells, hzs, ← Nat.add_mul]
        exact Nat.mul_le_mul_right _ (by omega)
      · rw [hlen] at hq
        have hle : (q + 1) * e.sz ≤ m.toNat * e.sz := Nat.mul_le_mul_right _ hq
        rw [Nat.add_mul] at hle
        have hlt : q * e.sz + p < m.toNat * z.cells.size := by rw [hzs]; omega
        have hmod : (q * e.sz + p) % z.cells.size = p := by rw [hzs, Nat.mul_comm, Nat.mul_add_mod, Nat.mod_eq_of_lt hp]
        have hpz : p < z.cells.size := by omega
        have e1 : e.zeroCells[p]? = z.cells[p]? := by rw [← hz, Array.getElem?_toList]
        rw [e1, Array.getElem?_append_left (by rw [size_zeroCells]; exact hlt)]
        simp [Builtin.zeroCells, hlt, hmod, hpz]
      · rw [List.getElem_replicate]; exact Rd.zero e
    · exact (Res.to_fail he).elim
  · exact (Res.to_fail he).elim

include hΓ h in
theorem evCap_ok {t ty : Nat} {x : TV} {v : Value} (hx : TR P J B βs obs w x v) (he : (evCap Γ t x obs).To (tv, obs')) : Gives P J B βs obs wr w (Builtin.cap_ #[t] ty #[v]) tv obs' := by
  unfold evCap at he
  split at he
  · rename_i e e' hk
    obtain ⟨el, hu, hE⟩ := hΓ.slice hk
    obtain ⟨rfl, rfl⟩ := Res.to_nowV he
    obtain rfl : v = .slice none 0 0 := hx
    exact Gives.now h (v := .int .i64 0) (by simp [Builtin.cap_, run_underlying hu, goInt]) (mk_int _ _)
  · exact (Res.to_fail he).elim

end Go.Proofs.YtbliiipcjbmbiaaGreatDoor.Ev
