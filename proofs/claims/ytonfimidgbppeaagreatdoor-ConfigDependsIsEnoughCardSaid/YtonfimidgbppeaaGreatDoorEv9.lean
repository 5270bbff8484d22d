/- slices.SortFunc at structs as a function of the evaluator that writes in place (this session's own; from the shelf's contract). The conditions stand in each statement. -/
import Derived.Test.YtonfimidgbppeaaGreatDoorEv2
import Derived.Shelf.SlSortCmp.WholeK
import Derived.Shelf.SlSortCmp.NoneTotal
namespace Go.Proofs.YtonfimidgbppeaaGreatDoor.Ev
open Go.Shelf Go.RowKit Go.Lib Go.Sort
set_option linter.unusedVariables false
set_option linter.unusedSimpArgs false
variable {P : Program} {J : Inv} {ρ : Ren}

/-- sorted by a comparison that tells whatever two of the list apart -/
def sortF {α : Type} (cf : α → α → Int) (l : List α) : Option (List α) := if l.Pairwise (fun a b => cf a b < 0 ∨ cf b a < 0) ∧ l.length < 4611686018427387904 then some (l.mergeSort fun a b => !ltOf cf b a) else none
structure CmpOK (P : Program) (g : Nat) (e : Kd) (cf : e.T → e.T → Int) : Prop where
  swo : SWO (ltOf cf)
  enters : ∀ args w, (callFunc g args).run P w = .ok (.enter g args) w
  gives : ∀ (w0 : World) (F : Nat → Prop) (c1 c2 : List Value) (x y : e.T) (w : World), Rd w0 F e c1 x → Rd w0 F e c2 y → Calls P g #[.agg c1.toArray, .agg c2.toArray] w fun e' w' => e' = .returned (.int .i64 (cf x y)) ∧ ∃ q os, w' = grow (w.drewN q) os

theorem Rd.oneCell {w : World} {F : Nat → Prop} : ∀ {k : Kd} {vs : List Value} {x : k.T}, Rd w F k vs x → ∀ v ∈ vs, v.oneCell' = true
  | .int _, _, _, h, v, hv => by rw [show _ = _ from h] at hv; rw [List.mem_singleton.1 hv]; rfl
  | .bool, _, _, h, v, hv => by rw [show _ = _ from h] at hv; rw [List.mem_singleton.1 hv]; rfl
  | .str, _, _, h, v, hv => by rw [show _ = _ from h] at hv; rw [List.mem_singleton.1 hv]; rfl
  | .slice e, _, _, ⟨A, c, h1, _⟩, v, hv => by rw [h1] at hv; rw [List.mem_singleton.1 hv]; rfl
  | .map kk kv, _, _, h, v, hv => by
    rcases h with h | ⟨r, es, clock, h1, _⟩
    · rw [h.1] at hv; rw [List.mem_singleton.1 hv]; rfl
    · rw [h1] at hv; rw [List.mem_singleton.1 hv]; rfl
  | .iter g kk kv, _, _, h, v, hv => by
    rcases h with h | ⟨bx, v', m, h1, _⟩
    · rw [h.1] at hv; rw [List.mem_singleton.1 hv]; rfl
    · rw [h1] at hv; rw [List.mem_singleton.1 hv]; rfl
  | .oslice n, _, _, ⟨A, c, h1, _⟩, v, hv => by rw [h1] at hv; rw [List.mem_singleton.1 hv]; rfl
  | .unit, _, _, h, v, hv => by rw [show _ = _ from h] at hv; cases hv
  | .pair a b, _, _, ⟨va, vb, h1, h2, h3⟩, v, hv => by
    rw [h1] at hv
    rcases List.mem_append.1 hv with q | q
    · exact Rd.oneCell h2 v q
    · exact Rd.oneCell h3 v q
  | .agg c, vs, x, h, v, hv => Rd.oneCell (k := c) h v hv
/-- an element with its cells -/
def El (w : World) (F : Nat → Prop) (e : Kd) : Type := {q : List Value × e.T // Rd w F e q.1 q.2}
def El.cs {w : World} {F : Nat → Prop} {e : Kd} (x : El w F e) : List Value := x.1.1
def El.dat {w : World} {F : Nat → Prop} {e : Kd} (x : El w F e) : e.T := x.1.2
instance {w : World} {F : Nat → Prop} {e : Kd} : Inhabited (El w F e) := ⟨⟨(e.zeroCells, e.dflt), Rd.zero e⟩⟩

theorem sorted_eq {α : Type} {lt : α → α → Bool} (hO : SWO lt) {l m : List α} (hp : m.Perm l) (hs : m.Pairwise fun a b => lt b a = false) (hd : l.Pairwise fun a b => lt a b = true ∨ lt b a = true) : m = l.mergeSort fun a b => !lt b a := by
  have trans : ∀ a b c : α, (!lt b a) = true → (!lt c b) = true → (!lt c a) = true := fun a b c h1 h2 => by
    simp only [Bool.not_eq_true'] at *
    exact hO.ntrans c b a h2 h1
  have asym : ∀ a b : α, lt a b = true → lt b a = false := fun a b h => by
    cases hb : lt b a with
    | false => rfl
    | true => rw [← hO.irrefl a]; exact (hO.trans a b a h hb).symm
  have total : ∀ a b : α, (!lt b a || !lt a b) = true := fun a b => by
    cases hb : lt b a with
    | false => rfl
    | true => rw [asym b a hb]; rfl
  have hs2 := List.pairwise_mergeSort (le := fun a b => !lt b a) trans total l
  have hp2 : m.Perm (l.mergeSort fun a b => !lt b a) := hp.trans (List.mergeSort_perm l _).symm
  have hd' : ∀ a ∈ l, ∀ b ∈ l, a ≠ b → lt a b = true ∨ lt b a = true := fun a ha b hb hne =>
    by
      obtain ⟨i, hi, rfl⟩ := List.getElem_of_mem ha
      obtain ⟨j, hj, rfl⟩ := List.getElem_of_mem hb
      rcases Nat.lt_trichotomy i j with q | q | q
      · exact List.pairwise_iff_getElem.1 hd i j hi hj q
      · subst q; exact absurd rfl hne
      · exact (List.pairwise_iff_getElem.1 hd j i hj hi q).symm
  refine List.Perm.eq_of_pairwise (le := fun a b => (!lt b a) = true) (fun a b ha hb h1 h2 => ?_) (hs.imp fun h => by rw [h]; rfl) hs2 hp2
  have ha' := hp.mem_iff.1 ha
  have hb' := (List.mergeSort_perm l _).mem_iff.1 hb
  refine Classical.byContradiction fun hne => ?_
  simp only [Bool.not_eq_true'] at h1 h2
  rcases hd' a ha' b hb' hne with q | q
  · rw [h2] at q; cases q
  · rw [h1] at q; cases q

theorem ioOK_sortFunc {e : Kd} (L : SlLaysF0.n6 P ρ) (aE : ∀ w, (Go.isAgg (ρ.t 24)).run P w = .ok true w) (zE : ∀ w, (Go.sizeOf (ρ.t 24)).run P w = .ok e.sz w) (hpos : 0 < e.sz)
    (hent : ∃ fn, P.funcs[ρ.f 6]? = some fn ∧ fn.body.isSome = true ∧ (fn.name == "runtime.NumGoroutine") = false) (tab : Nat → Option (e.T → e.T → Int)) (htab : ∀ g cf, tab g = some cf → CmpOK P g e cf) :
    IoOK P J (ρ.f 6) ⟨e, fun _ l gs => match gs with
      | [g] => (tab g).bind fun cf => sortF cf l
      | _ => none⟩ := by
  refine ⟨hent, fun k B F0 v l gs l' hB hF0 hob hG hf => ?_⟩
  dsimp only at hf hob l'
  cases gs with
  | nil => cases hf
  | cons g gr =>
  cases gr with
  | cons g' gr => cases hf
  | nil =>
  dsimp only at hf
  cases htg : tab g with
  | none => rw [htg] at hf; cases hf
  | some cf =>
  rw [htg] at hf
  have hc := htab g cf htg
  unfold sortF at hf
  dsimp only [Option.bind_some] at hf
  split at hf
  rotate_left
  · cases hf
  rename_i hcond
  cases hf
  rcases hob with ⟨rfl, rfl⟩ | ⟨b, off, cap, c, t, fr, rfl, h2, h3, h4, h5, h6⟩
  · refine (AnyF.slices_SortFunc_none { L with } none 0 (.func (.func g) #[] #[]) B.w0).mono fun e' w' ⟨q1, q2⟩ => ?_
    subst q2
    refine ⟨q1, ⟨rfl, rfl, rfl, Nat.le_refl _, fun _ _ _ => rfl⟩, .inl ⟨rfl, by simp⟩⟩
  have hbG := hG b rfl
  -- the elements with their cells
  have hel : ∀ i : Fin l.length, ∃ x : El B.w0 F0 e, x.dat = l[i] ∧ x.cs.length = e.sz ∧ ∀ j, j < e.sz → c[off + (i * e.sz + j)]? = x.cs[j]? := fun i => by
    obtain ⟨cs, e1, e2, e3⟩ := h6 i.1 i.2
    exact ⟨⟨(cs, l[i]), e3⟩, rfl, e1, e2⟩
  obtain ⟨el, hel⟩ := Classical.axiomOfChoice hel
  let d : Array (El B.w0 F0 e) := Array.ofFn el
  have hds : d.size = l.length := by simp [d]
  have hdl : d.toList.map El.dat = l := by
    apply List.ext_getElem
    · simp [d]
    · intro i h1 h2
      simp [d]
      exact (hel ⟨i, h2⟩).1
  have hk : ∀ x : El B.w0 F0 e, x.cs.length = e.sz := fun x => x.2.length
  have h1c : ∀ x : El B.w0 F0 e, ∀ v ∈ x.cs, v.oneCell' = true := fun x => x.2.oneCell
  have hcsz : off + l.length * e.sz ≤ c.size := Nat.le_trans (Nat.add_le_add_left (Nat.mul_le_mul_right _ h5) _) h4
  have hH : HoldsK El.cs e.sz B.w0 b off d := fun j hj => by
    rw [size_flatK, hds] at hj
    have hdiv : j / e.sz < l.length := Nat.div_lt_of_lt_mul (by rw [Nat.mul_comm]; exact hj)
    have hmod : j % e.sz < e.sz := Nat.mod_lt _ hpos
    have hje : j / e.sz * e.sz + j % e.sz = j := by rw [Nat.mul_comm]; exact Nat.div_add_mod j e.sz
    have hcell := (hel ⟨j / e.sz, hdiv⟩).2.2 (j % e.sz) hmod
    have hjc : off + j < c.size := by omega
    refine ⟨?_, ?_⟩
    · rw [get_flatK _ _ _ _ (by rw [hds]; exact hj)]
      unfold World.cell?
      rw [h2]
      have hd2 : d[j / e.sz]! = el ⟨j / e.sz, hdiv⟩ := by
        rw [getElem!_pos d _ (by rw [hds]; exact hdiv)]
        simp [d]
      dsimp only at hcell ⊢
      rw [hje] at hcell
      rw [hd2, hcell]
      have := hk (el ⟨j / e.sz, hdiv⟩)
      have hml : j % e.sz < (el ⟨j / e.sz, hdiv⟩).cs.length := by omega
      simp only [id]
      rw [getElem!_pos (el ⟨j / e.sz, hdiv⟩).cs (j % e.sz) hml, List.getElem?_eq_getElem hml]
      rfl
    · unfold World.frozen?
      rw [h2]
      exact h3 (off + j) (by omega)
  have hlt : b < B.w0.heap.size := hbG.2
  have hO' : SWO (ltOf fun x y : El B.w0 F0 e => cf x.dat y.dat) := ⟨fun x => hc.swo.irrefl x.dat, fun x y z => hc.swo.trans x.dat y.dat z.dat, fun x y z => hc.swo.ntrans x.dat y.dat z.dat⟩
  have hcmp : CmpLays P g #[] El.cs e.sz (fun x y : El B.w0 F0 e => cf x.dat y.dat) b off d.size B.w0 := fun m os dk hdk x y => by
    have := hc.gives B.w0 F0 x.cs y.cs x.dat y.dat (sortWorldK El.cs e.sz B.w0 b off m dk os) x.2 y.2
    exact this
  have hcall := AnyQ.slices_SortFunc L e.sz aE zE El.cs hk h1c (fun x y : El B.w0 F0 e => cf x.dat y.dat) hO' g #[] b off cap d B.w0 hc.enters hcmp hH hlt (by rw [hds]; exact hcond.2)
  rw [hds] at hcall
  refine hcall.mono fun e' w' ⟨q1, d', n, os, hp, hs, hw⟩ => ?_
  obtain ⟨hp1, _, hp3⟩ := hp
  rw [hds] at hp1
  have hperm : d'.toList.Perm d.toList := by
    have e1 : d'.extract 0 l.length = d' := by rw [← hp1]; simp
    have e2 : d.extract 0 l.length = d := by rw [← hds]; simp
    rw [e1, e2] at hp3
    exact hp3
  have hlist : d'.toList.map El.dat = l.mergeSort fun a b => !ltOf cf b a := by
    refine sorted_eq hc.swo ?_ ?_ (hcond.1.imp fun {a b} h => ?_)
    · rw [← hdl]; exact hperm.map _
    · rw [List.pairwise_map, List.pairwise_iff_getElem]
      intro i j hi hj hij
      have hi' : i < d'.size := by simpa using hi
      have hj' : j < d'.size := by simpa using hj
      have := hs i j (Nat.zero_le _) hij (by omega)
      rw [getElem!_pos d' i hi', getElem!_pos d' j hj'] at this
      simpa [ltOf] using this
    · unfold ltOf
      rcases h with h | h
      · exact .inl (decide_eq_true h)
      · exact .inr (decide_eq_true h)
  have hl' : (l.mergeSort fun a b => !ltOf cf b a).length = l.length := List.length_mergeSort _
  have hbl : w'.heap[b]? = some (.cells (Go.Sort.putCells id off (flatK El.cs e.sz d') c) t fr) := by
    rw [hw]
    unfold sortWorldK grow putRowK putRow mapBlock
    dsimp only
    rw [Array.getElem?_append_left (by simp [Sort.ahead]; exact hlt), Array.getElem?_modify, if_pos rfl]
    show Option.map _ (B.w0.heap[b]?) = _
    rw [h2]; rfl
  refine ⟨q1, ⟨by rw [hw]; rfl, by rw [hw]; rfl, by rw [hw]; rfl, by rw [hw]; simp [sortWorldK, grow, putRowK, Sort.ahead, Base.n0], fun b' hb' hn => ?_⟩, .inr ⟨b, off, cap, _, t, fr, by rw [hl'], hbl, ?_, ?_, by rw [hl']; exact h5, fun i hi => ?_⟩⟩
  · have hne : b ≠ b' := fun q => hn (q ▸ hbG.1)
    rw [hw]
    unfold sortWorldK grow putRowK putRow mapBlock
    dsimp only
    rw [Array.getElem?_append_left (by simp [Sort.ahead]; exact hb'), Array.getElem?_modify, if_neg hne]
    rfl
  · rw [show (Go.Sort.putCells id off (flatK El.cs e.sz d') c).size = c.size by simp [Go.Sort.putCells]]; exact h3
  · rw [show (Go.Sort.putCells id off (flatK El.cs e.sz d') c).size = c.size by simp [Go.Sort.putCells]]; exact h4
  · have hi' : i < d'.size := by rw [hl'] at hi; omega
    have hil : i < l.length := by omega
    refine ⟨(d'[i]).cs, hk _, fun j hj => ?_, ?_⟩
    · have hj : j < e.sz := hj
      have hij : i * e.sz + j < l.length * e.sz := by
        have : (i + 1) * e.sz ≤ l.length * e.sz := Nat.mul_le_mul_right _ hil
        rw [Nat.add_mul] at this; omega
      simp only [Go.Sort.putCells, Array.getElem?_mapIdx]
      have hin : off + (i * e.sz + j) < c.size := by omega
      rw [Array.getElem?_eq_getElem hin]
      simp only [Option.map_some, size_flatK, hp1]
      rw [if_pos ⟨by omega, by omega⟩, show off + (i * e.sz + j) - off = i * e.sz + j by omega, get_flatK _ _ _ _ (by rw [hp1]; exact hij)]
      have hdiv : (i * e.sz + j) / e.sz = i := by rw [Nat.mul_comm, Nat.mul_add_div hpos, Nat.div_eq_of_lt hj]; rfl
      have hmod : (i * e.sz + j) % e.sz = j := by rw [Nat.mul_comm, Nat.mul_add_mod, Nat.mod_eq_of_lt hj]
      rw [hdiv, hmod, getElem!_pos d' i hi', getElem!_pos _ _ (by rw [hk]; exact hj), List.getElem?_eq_getElem (by rw [hk]; exact hj)]
      rfl
    · have hg : (l.mergeSort fun a b => !ltOf cf b a)[i] = (d'[i]).dat := by
        have := List.getElem_of_eq hlist.symm hi
        rw [this]
        simp
      rw [hg]
      have hr := (d'[i]).2
      refine Rd.mono (fun q hq => ⟨hq, ?_⟩) hr
      obtain ⟨f1, f2⟩ := hF0 q hq
      have hne : b ≠ q := fun e' => f2 (e' ▸ hbG.1)
      rw [hw]
      unfold sortWorldK grow putRowK putRow mapBlock
      dsimp only
      rw [Array.getElem?_append_left (by simp [Sort.ahead]; exact f1), Array.getElem?_modify, if_neg hne]
      rfl
end Go.Proofs.YtonfimidgbppeaaGreatDoor.Ev
