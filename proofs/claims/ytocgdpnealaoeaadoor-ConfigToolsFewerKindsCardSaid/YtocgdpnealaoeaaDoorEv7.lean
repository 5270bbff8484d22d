/- Contracts of the library as functions of the evaluator: slices.Clone at any element type (this session's own). No condition. -/
import Derived.Test.YtocgdpnealaoeaaDoorEv6
import Derived.Shelf.SlLaysE0
import Derived.Shelf.SlicesE.Clone
import Derived.Shelf.RegionOpenPlain
import Derived.WalkKit
import Derived.Deep.LoopGhost
import Derived.Lib.Walk
import Derived.Lib.SliceRun
namespace Go.Proofs.YtocgdpnealaoeaaDoor.Ev
open Go.Shelf Go.RowKit Go.Lib
set_option linter.unusedVariables false
set_option linter.unusedSimpArgs false

section
variable {P : Program} {ρ : Ren}
set_option maxHeartbeats 2000000 in
set_option maxRecDepth 100000 in
theorem clone_some (L : SlLaysE0.n41 P ρ) (i0 : TypeInfo) (z : Value) (size bytes : Nat) (hi : P.info? (ρ.t 23) = some i0) (hz0 : i0.zero = some z) (hz1 : i0.size = size) (hz2 : i0.bytes = bytes) (hzs : z.cells.size = size) (hsz : 0 < size)
    (z23 : ∀ w, (Go.sizeOf (ρ.t 23)).run P w = .ok size w) (ad : Addr) (n c : Nat) (news : List Value) (w : World) (hl : news.length = n * size) (hn : n ≤ maxLen) (hbig : n * bytes ≤ 140737488355328)
    (hc : ∀ j u, news[j]? = some u → w.cell? (ad.add j) = some u) (h1 : ∀ u ∈ news, u.oneCell' = true) :
    Calls P (ρ.f 41) #[.slice (some ad) n c] w fun e w' => ∃ v', e = .returned v' ∧ w'.ownsRow w.heap.size (ρ.t 23) size v' n news ∧ Below w.heap.size w w' := by
  have mixed := L.mixed; have t4 := L.t4; have a4 := L.a4; have z4 := L.z4; have v4 := L.v4; have t22 := L.t22; have a22 := L.a22; have z22 := L.z22; have v22 := L.v22
  have q22 : ∀ (w : World) (a : Option Addr) (n c n' c' : Nat), (binOp .eql (ρ.t 22) (.slice a n c) (.slice none n' c')).run P w = .ok (.bool a.isNone) w := fun w a n c n' c' => Lib.run_eql_slice_nil w _ _ a n c n' c' L.t22
  have u22 : ∀ w, Sem.run P (underlying (ρ.t 22)) w = .ok (TypeDesc.slice (ρ.t 23)) w := run_underlying t22
  have A : Aside (∀ j u, news[j]? = some u → w.cell? (ad.add j) = some u) := hc
  clear hc
  obtain ⟨_, _, FG⟩ := L.f41
  go_enter FG, SlBodyN.n41_ntmps ρ
  go_wp2_with (at_builtin; refine wpList_append_own _ rfl _ _ (ρ.t 22) rfl w.heap.size (ρ.t 23) i0 z size bytes t22 hi hz0 hz1 hz2 hzs hsz _ _ _ rfl (World.ownsRow_made w #[] 0 (Nat.le_refl _) (Nat.zero_le _) (by simp)) ad n c news rfl ?qc1 ?qc2 ?qc3 ?qc4 ?qc5 ?qc6 ?_)
  case qc1 => exact hl
  case qc2 =>
    intro j u hj
    exact Lib.cell?_alloc_some _ (A.out j u hj)
  case qc3 => exact h1
  case qc4 => rw [Nat.zero_add]; exact hn
  case qc5 => rw [Nat.zero_add]; exact hbig
  case qc6 => simp
  intro v' w1 hown hgrow hnil
  go_wp2
  go_ret
  refine ⟨v', rfl, by simpa using hown, ?_⟩
  exact ((Below.refl _ w).alloc (Nat.le_refl _) _).grown hgrow (by simp) (by intro k hk; simp [Value.ownBlock] at hk; omega)
end

variable {P : Program} {J : Inv}
/-- a contract whose one result is an array of the caller's own from then on -/
theorem FnOK.givenOwn {g : Nat} {ps : List Pm} {e : Kd} {f : Nat → PT ps → Option (List e.T)} (hps : ∀ vals, ownBs ps vals = []) (henter : ∃ fn, P.funcs[g]? = some fn ∧ fn.body.isSome = true ∧ (fn.name == "runtime.NumGoroutine") = false)
    (h : ∀ (k : Nat) (w : World) (F S : Nat → Prop) (x : PT ps) (y : List e.T) (vals : List Value), J.I w → J.gz ≤ w.heap.size → (∀ b, F b → b < w.heap.size) → ArgsRep P J w F S ps x vals → f k x = some y →
      Calls P g vals.toArray w fun en w' => ∃ v, en = .returned v ∧ ObRep w' F [] v (.arr e y) ∧ (∀ b, bOf v = some b → w.heap.size ≤ b ∧ b < w'.heap.size) ∧ Below w.heap.size w w') : FnOK P J g ⟨ps, [.own e], f⟩ := by
  refine ⟨henter, fun k B vals x y hB hargs hnd hG hy => ?_⟩
  refine (h k B.w0 B.F0 B.S x y vals hB.inv hB.gz (fun b hb => (hB.f0 b hb).1) hargs hy).mono fun en w' ⟨v, h1, h2, h3, h4⟩ => ?_
  have hrs : ownRs [Lm.own e] [v] = (bOf v).toList := by simp [ownRs]
  refine ⟨[v], h1, ⟨v, rfl, ?_⟩, ?_, ?_, Below.ext h4⟩
  · exact ObRep.mono (fun b hb => ⟨.inl hb, rfl⟩) (Nat.le_refl _) (fun _ _ => rfl) (fun b _ _ => rfl) h2
  · rw [hrs]; cases bOf v <;> simp
  · rw [hrs]
    intro b hb
    have hb' : bOf v = some b := by
      cases hv : bOf v with
      | none => rw [hv] at hb; simp at hb
      | some c => rw [hv] at hb; simp at hb; rw [hb]
    exact ⟨.inl (h3 b hb').1, (h3 b hb').2⟩

/-- a row of the call's own is an own array -/
theorem ownsRow_arr {w w' : World} {F : Nat → Prop} {et : TypeId} {e : Kd} {v : Value} {l : List e.T} {news : List Value} (h : w'.ownsRow w.heap.size et e.sz v l.length news)
    (hr : ∀ (i : Nat) (hi : i < l.length), Rd w' F e ((news.drop (i * e.sz)).take e.sz) l[i]) : ObRep w' F [] v (.arr e l) ∧ ∀ b, bOf v = some b → w.heap.size ≤ b ∧ b < w'.heap.size := by
  obtain ⟨h1, ⟨rfl, h2⟩ | ⟨g, cap, cur, rfl, h3, h4, h5, h6, h7, h8⟩⟩ := h
  · exact ⟨.inl ⟨rfl, List.eq_nil_of_length_eq_zero h2⟩, fun b hb => by simp [bOf] at hb⟩
  · have hg : g < w'.heap.size := by
      rcases Nat.lt_or_ge g w'.heap.size with q | q
      · exact q
      · rw [Array.getElem?_eq_none q] at h4; cases h4
    refine ⟨.inr ⟨g, 0, cap, cur, et, (0, 0), rfl, h4, fun o _ => by simp, by rw [Nat.zero_add, h7]; exact Nat.le_refl _, h5, fun i hi => ⟨_, ?_, fun j hj => ?_, hr i hi⟩⟩, fun b hb => by
      simp only [bOf, Option.some.injEq] at hb
      subst hb
      exact ⟨h3, hg⟩⟩
    · have hle : (i + 1) * e.sz ≤ l.length * e.sz := Nat.mul_le_mul_right _ hi
      rw [Nat.add_mul] at hle
      rw [List.length_take, List.length_drop, h1]; omega
    · have hle : (i + 1) * e.sz ≤ l.length * e.sz := Nat.mul_le_mul_right _ hi
      rw [Nat.add_mul] at hle
      rw [List.getElem?_take, if_pos hj, List.getElem?_drop, ← h8, List.getElem?_take, if_pos (by omega), Nat.zero_add]
      simp

theorem fnOK_clone {ρ : Ren} {e : Kd} {bytes : Nat} (L : SlLaysE0.n41 P ρ) (henter : ∃ fn, P.funcs[ρ.f 41]? = some fn ∧ fn.body.isSome = true ∧ (fn.name == "runtime.NumGoroutine") = false)
    (hE : ElOK P (ρ.t 23) e) (hby : ∀ i, P.info? (ρ.t 23) = some i → i.bytes = bytes) (hsz : 0 < e.sz) (hz : bytes ≠ 0) :
    FnOK P J (ρ.f 41) ⟨[.val (.slice e)], [.own e], fun _ x => if x.1.length * bytes ≤ 140737488355328 then some x.1 else none⟩ := by
  obtain ⟨i, i1, i2, z, i3, i4⟩ := hE.info
  have hzc : z.cells.toList = e.zeroCells := by rw [valCells_cells i4 (Kd.zero_one e)]
  have hzs : z.cells.size = e.sz := by rw [← Array.length_toList, hzc, Kd.zeroCells_length]
  have hso : ∀ w, (Go.sizeOf (ρ.t 23)).run P w = .ok e.sz w := fun w => by simp [Go.sizeOf, typeInfo, i1, i2]
  refine FnOK.givenOwn (fun vals => by cases vals <;> rfl) henter fun k w F S x y vals hI hgz hF hargs hy => ?_
  obtain ⟨v1, r1, rfl, a1, hr⟩ := hargs
  have hr : r1 = [] := hr
  subst hr
  split at hy
  · rename_i hc
    cases hy
    obtain ⟨_, vs, q1, A, c, q2, q3, q4⟩ := a1
    subst q2
    have hv : v1 = .slice A x.1.length c := by
      unfold valCells at q1
      simpa [Kd.isAgg] using q1.symm
    subst hv
    have hlen : x.1.length ≤ maxLen := by
      have : x.1.length * 1 ≤ x.1.length * bytes := Nat.mul_le_mul_left _ (by omega)
      unfold maxLen; omega
    cases A with
    | none =>
      have hx : x.1 = [] := by
        rcases q4 with q | ⟨ad, q, _⟩
        · exact q
        · cases q
      refine (AnyE.slices_Clone_nil L x.1.length c w).mono fun en w' ⟨e1, e2⟩ => ?_
      subst e2
      exact ⟨_, e1, .inl ⟨rfl, hx⟩, fun b hb => by simp [bOf] at hb, Below.refl _ _⟩
    | some ad =>
      have hrow : ∀ (i : Nat) (hi : i < x.1.length), ∃ cs : List Value, cs.length = e.sz ∧ (∀ j, j < e.sz → w.cell? (ad.add (i * e.sz + j)) = cs[j]?) ∧ Rd w F e cs x.1[i] := fun i hi => by
        rcases q4 with q | ⟨ad', q, q5, q6⟩
        · rw [q] at hi; cases hi
        · cases q
          exact q6 i hi
      obtain ⟨news, n1, n2, n3, n4⟩ := row_cells hrow
      refine (clone_some L i z e.sz bytes i1 i3 i2 (hby i i1) hzs hsz hso ad x.1.length c news w n1 hlen hc n2 n3).mono fun en w' ⟨v', e1, e2, e3⟩ => ?_
      obtain ⟨o1, o2⟩ := ownsRow_arr e2 (fun i hi => Rd.mono (fun b hb => ⟨hb, e3.block b (hF b hb)⟩) (n4 i hi))
      exact ⟨v', e1, o1, o2, e3⟩
  · cases hy
end Go.Proofs.YtocgdpnealaoeaaDoor.Ev
