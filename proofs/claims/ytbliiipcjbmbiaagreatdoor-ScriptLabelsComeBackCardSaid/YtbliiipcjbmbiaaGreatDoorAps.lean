/- slices.AppendSeq(nil, slices.Values(l)) at strings, as a function in place (this session's own; the walks are turned from the library's worked proofs). No condition. -/
import Derived.Test.YtbliiipcjbmbiaaGreatDoorGc
import Derived.Test.YtbliiipcjbmbiaaGreatDoorProg
import Derived.Test.YtbliiipcjbmbiaaGreatDoorShelfV
import Derived.Shelf.SlIter.Collect
import Derived.RangeFuncBox
import Derived.RangeFuncLeaves
import Derived.WalkKit
import Derived.OwnWalkIn
import Derived.TacticsInMore
import Derived.LoopNIn
import Derived.LoopIn
namespace Go.Proofs.YtbliiipcjbmbiaaGreatDoor.Ev
open Go Go.Proofs Go.RowKit Go.Shelf Go.Maps Go.Sort
set_option linter.unusedVariables false
set_option linter.unusedSimpArgs false
attribute [local go_sem] Oper.semAt_some

/-- an iterator over these elements, of which it is asked only under invariants that keep what lay below -/
def GivesB (P : Program) (n g : Nat) (lb : Array Value) (zs : List (List UInt8)) (w : World) : Prop :=
  ∀ (l : Nat) (J : List (List UInt8) → World → Prop) (W : World), Below w.heap.size w W → (∀ s W', J s W' → Below w.heap.size w W') →
    (∀ pre x W1, J pre W1 → pre.length < zs.length → YieldAt Fence.wide (n - 1) P l #[encStr x] W1 fun e W' => e = .returned (.bool true) ∧ J (pre ++ [x]) W' ∧ KeepsWalks W1 W') →
    J [] W → CallsIn Fence.wide n P g (#[.func (.yield l) #[] #[]] ++ lb) W fun e W' => (∃ v, e = .returned v) ∧ J zs W'

set_option maxRecDepth 100000 in
set_option maxHeartbeats 2000000 in
theorem values1_in (n : Nat) (hn : 1 ≤ n) (l Bs n₀ b off cap : Nat) (zs : List (List UInt8)) (hreach : zs.length * 16 ≤ 140737488351232) (hb : b < n₀) (w0 : World) (J : List (List UInt8) → World → Prop)
    (hY : ∀ pre x W, J pre W → pre.length < zs.length → YieldAt Fence.wide (n - 1) Tryz.prog l #[encStr x] W fun e W' => e = .returned (.bool true) ∧ J (pre ++ [x]) W')
    (hJ : ∀ s W', J s W' → ∀ j (h : j < zs.length), W'.cell? ⟨b, off + j, none⟩ = some (encStr zs[j]))
    (W : World) (hBs : W.cell? ⟨Bs, 0, none⟩ = some (.slice (some ⟨b, off, none⟩) zs.length cap)) (h0 : J [] W) :
    CallsIn Fence.wide n Tryz.prog 258 #[.func (.yield l) #[] #[], .pointer (some ⟨Bs, 0, none⟩)] W fun e W' => (∃ v, e = .returned v) ∧ J zs W' := by
  refine callsIn_of_wp Tryz.func258 rfl trivial ?_ rfl
  simp only [Tryz.ntmps258, List.size_toArray, List.length_cons, List.length_nil, Nat.reduceAdd, Nat.reduceSub, Array.replicate_succ, Array.replicate_zero, List.push_toArray, List.append_toArray, List.nil_append, List.cons_append]
  gi_wp2
  gi_loopw [7] (fun i wr => ∃ k : Nat, k ≤ zs.length ∧ i = .int .i64 k ∧ J (zs.take k) wr)
    (fun i _ => zs.length - (intOf i).toNat)
  case atStart => exact ⟨0, Nat.zero_le _, rfl, by simpa using h0⟩
  case round =>
    obtain ⟨k, hk, rfl, hJs⟩ := hrel
    by_cases hlt : k < zs.length
    · obtain ⟨fn, tmps, assign, body, hy, hR⟩ := hY _ zs[k] wr hJs (by simp; omega)
      have hcx' := hJ _ _ hJs k hlt
      gi_wp2
      refine hR.mono ?_
      rintro e W3 ⟨rfl, hJ3⟩
      gi_wp2
      go_roundw
      case rel => exact ⟨k + 1, by omega, by simp, by rw [List.take_succ_eq_append_getElem hlt]; exact hJ3⟩
      case measure => simp [intOf]; omega
    · obtain rfl : k = zs.length := by omega
      gi_wp2
      go_end0
      exact ⟨⟨_, rfl⟩, by simpa using hJs⟩

set_option maxRecDepth 100000 in
set_option maxHeartbeats 1000000 in
theorem values1_nil_in (n : Nat) (l Bs : Nat) (p : Option Addr) (cap : Nat) (J : List (List UInt8) → World → Prop) (W : World) (hBs : W.cell? ⟨Bs, 0, none⟩ = some (.slice p 0 cap)) (h0 : J [] W) :
    CallsIn Fence.wide n Tryz.prog 258 #[.func (.yield l) #[] #[], .pointer (some ⟨Bs, 0, none⟩)] W fun e W' => (∃ v, e = .returned v) ∧ J [] W' := by
  refine callsIn_of_wp Tryz.func258 rfl trivial ?_ rfl
  simp only [Tryz.ntmps258, List.size_toArray, List.length_cons, List.length_nil, Nat.reduceAdd, Nat.reduceSub, Array.replicate_succ, Array.replicate_zero, List.push_toArray, List.append_toArray, List.nil_append, List.cons_append]
  gi_wp2
  gi_loopw [7] (fun i wr => i = .int .i64 0 ∧ J [] wr) (fun _ _ => 0)
  case atStart => exact ⟨rfl, h0⟩
  case round =>
    obtain ⟨rfl, hJs⟩ := hrel
    gi_wp2
    go_end0
    exact ⟨⟨_, rfl⟩, hJs⟩

variable {P : Program} {ρ : Ren}
set_option maxRecDepth 100000 in
set_option maxHeartbeats 2000000 in
theorem appendSeqB_in (L : SlLaysZ.n11 P ρ) (n : Nat) (hn : 2 ≤ n) (g : Nat) (lb : Array Value) (eg : ∀ args w, (callFunc g args).run P w = .ok (.enter g args) w)
    (zs : List (List UInt8)) (hN : zs.length ≤ maxLen) (hNb : zs.length * 16 ≤ 140737488355328) (w : World) (hseq : GivesB P (n - 1) g lb zs w) :
    CallsIn Fence.wide n P (ρ.f 11) #[.slice none 0 0, .func (.func g) #[] lb] w fun e w' => ∃ v : Value, e = .returned v ∧ w'.ownsRow w.heap.size (ρ.t 26) 1 v zs.length (zs.map encStr) ∧ Below w.heap.size w w' := by
  have h1 : 1 ≤ n := by omega
  have mixed := L.mixed; have t0 := L.t0; have a0 := L.a0; have z0 := L.z0; have v0 := L.v0; have t24 := L.t24; have a24 := L.a24; have z24 := L.z24; have v24 := L.v24; have t26 := L.t26; have a26 := L.a26; have z26 := L.z26; have v26 := L.v26; have t28 := L.t28; have a28 := L.a28; have z28 := L.z28; have v28 := L.v28
  have hne : ρ.t 24 ≠ ρ.t 26 := fun e => by have h := L.t24; rw [e, L.t26] at h; cases h
  have u0 := run_underlying L.t0; have u24 := run_underlying L.t24; have u26 := run_underlying L.t26; have u28 := run_underlying L.t28
  obtain ⟨_, _, FG⟩ := L.f11
  refine callsIn_of_wp_marks FG rfl trivial ?_ rfl
  simp only [SlBodyZ.n11_ntmps ρ, List.size_toArray, List.length_cons, List.length_nil, Nat.reduceAdd, Nat.reduceSub, Array.replicate_succ, Array.replicate_zero, List.push_toArray, List.append_toArray, List.nil_append, List.cons_append]
  gi_wp2
  refine wpIn_rangeFunc ?_
  intro fn hfn
  obtain ⟨W0, hW0⟩ : ∃ W0, w.alloc (.cells #[.slice none 0 0] (ρ.t 24)) = W0 := ⟨_, rfl⟩
  have hs0 : W0.heap.size = w.heap.size + 1 := by rw [← hW0]; simp
  have hv0 : W0.heap[w.heap.size]? = some (.cells #[.slice none 0 0] (ρ.t 24) (0, 0)) := by rw [← hW0]; exact World.alloc_heap_new w _
  have hb0 : Below w.heap.size w W0 := by rw [← hW0]; exact (Below.refl _ w).alloc (Nat.le_refl _) _
  rw [hW0]
  obtain ⟨W1, hW1⟩ : ∃ W1, (W0.alloc (.deferred (some []))).alloc (.loop (AnyZ.apRec ρ fn (.func (.func g) #[] lb) w.heap.size W0.heap.size .ready none)) = W1 := ⟨_, rfl⟩
  have hold : ∀ k, k < W0.heap.size → W1.heap[k]? = W0.heap[k]? := fun k hk => by
    rw [← hW1]; exact (Below.heap_alloc _ _ k (by simp; omega)).trans (Below.heap_alloc _ _ k hk)
  have hb1 : Below w.heap.size w W1 := by rw [← hW1]; exact (hb0.alloc hb0.size _).alloc (by have := hb0.size; simp; omega) _
  have hs1 : W1.heap.size = W0.heap.size + 2 := by rw [← hW1]; simp
  have hM : AnyZ.ApAt ρ w fn (.func (.func g) #[] lb) w.heap.size (W0.heap.size + 1) W0.heap.size [] W1 :=
    ⟨⟨_, (hold w.heap.size (by omega)).trans hv0, ⟨rfl, .inl ⟨rfl, rfl⟩⟩, by simp⟩,
     by rw [← hW1]; have := World.alloc_heap_new (W0.alloc (.deferred (some []))) (.loop (AnyZ.apRec ρ fn (.func (.func g) #[] lb) w.heap.size W0.heap.size .ready none)); rwa [World.size_alloc] at this,
     by rw [← hW1]; exact (Below.heap_alloc _ _ _ (by simp)).trans (World.alloc_heap_new W0 _), hb1⟩
  refine ⟨W0.heap.size + 1, [{ target := .collected W0.heap.size, args := #[] }], W1, { target := .fn (.func g) lb, args := #[.func (.yield (W0.heap.size + 1)) #[] #[]] }, W1, g,
    #[.func (.yield (W0.heap.size + 1)) #[] #[]] ++ lb, W1, ?_, ?_, ?_, ?_, fun _ => h1, ?_⟩
  · rw [← hW1]; exact run_enterLoop_outer _ _ _ _ _
  · simp [resolve, go_sem]
  · intro f' hf'; trivial
  · simp [invoke, go_sem, eg]
  · refine (hseq (W0.heap.size + 1) (AnyZ.ApAt ρ w fn (.func (.func g) #[] lb) w.heap.size (W0.heap.size + 1) W0.heap.size) W1 hb1 (fun s W' h => h.below)
      (fun pre x W hJ hl => AnyZ.apYield { L with } Fence.wide (n - 1 - 1) w fn trivial _ w.heap.size (W0.heap.size + 1) W0.heap.size (by omega) (by omega) (by omega) (Nat.le_refl _) (by omega) zs.length hN hNb pre x W hJ hl) hM).mono ?_
    rintro e W2 ⟨⟨v0, rfl⟩, h2⟩
    obtain ⟨v, hv, hrow, hnil⟩ := h2.box
    have hend := run_endLoop (P := P) h2.L (by simp [AnyZ.apRec])
    obtain ⟨W3, hW3⟩ : ∃ W3, W2.putObj (W0.heap.size + 1) (.loop { AnyZ.apRec ρ fn (.func (.func g) #[] lb) w.heap.size W0.heap.size .ready none with state := .exhausted }) = W3 := ⟨_, rfl⟩
    rw [hW3] at hend
    have hg3 : W2.grownBy W3 (some (W0.heap.size + 1)) := by rw [← hW3]; exact grownBy_putObj_a _ _ _
    have hv3 : W3.heap[w.heap.size]? = some (.cells #[v] (ρ.t 24) (0, 0)) := by rw [← hW3]; exact (World.putObj_heap_other (by omega)).trans hv
    have hK3 : W3.heap[W0.heap.size]? = some (.deferred (some [])) := by rw [← hW3]; exact (World.putObj_heap_other (by omega)).trans h2.K
    have hrow3 := hrow.kept hg3 (ownsRow_ne_a hrow h2.L (fun cur e => by first | cases e | exact hne (Obj.cells.inj e).2.1))
    have hb3 : Below w.heap.size w W3 := h2.below.grown hg3 h2.below.size (fun k e => by cases e; omega)
    obtain ⟨hc3, hf3⟩ := cell_of_box_a hv3
    clear hW3
    refine ⟨none, W3, hend, ?_⟩
    gi_wp2
    rw [← hs0]
    refine ⟨by simp, .inl ⟨_, _, rfl, run_takeDeferred hK3, ?_⟩⟩
    exact ⟨_, results_tmp rfl _ _ _, v, rfl, hrow3.kept (grownBy_putObj_a _ _ _) (ownsRow_ne_a hrow3 hK3 (fun cur e => by first | cases e | exact hne (Obj.cells.inj e).2.1)), hb3.grown (grownBy_putObj_a _ _ _) hb3.size (fun k e => by cases e; omega)⟩

/-! ### in place -/
def isNilTV : TV → Bool
  | .nil => true
  | .nilk _ => true
  | _ => false
def apsF (gv : Nat) : YFn := ⟨fun k tvs wr obs => match tvs with
  | [s, .fn g [L]] => match isNilTV s, Nat.beq g gv, getOb obs L with
    | true, true, .box [r] => match toVal (.slice .str) r.tv obs with
      | some l => match Nat.ble (l.length * 16) 140737488351232 with
        | true => some (.arr obs.length, obs ++ [.arr .str l])
        | false => none
      | none => none
    | _, _, _ => none
  | _ => none⟩
theorem yok_aps {J : Inv} (L : SlLaysZ.n11 Tryz.prog ρ) (hent : ∃ fn, Tryz.prog.funcs[ρ.f 11]? = some fn ∧ fn.body.isSome = true ∧ (fn.name == "runtime.NumGoroutine") = false)
    (eg : ∀ args w, (callFunc 258 args).run Tryz.prog w = .ok (.enter 258 args) w) : YOK Tryz.prog J (ρ.f 11) (apsF 258) := by
  refine ⟨hent, fun k B βs obs wr w tvs vals tv obs' hB h hI ht he => ?_⟩
  unfold apsF at he
  dsimp only at he
  split at he
  case h_2 => cases he
  rename_i s g L'
  split at he
  rotate_left
  · cases he
  rename_i r hs hg ho
  split at he
  rotate_left
  · cases he
  rename_i l hl
  split at he
  rotate_left
  · cases he
  rename_i hsz
  have hsz := Nat.le_of_ble_eq_true hsz
  cases he
  have hg := Nat.eq_of_beq_eq_true hg
  subst hg
  obtain ⟨v1, r1, rfl, a1, v2, r2, rfl, a2, hr⟩ := ht
  have hr : r2 = [] := hr
  subst hr
  have hv1 : v1 = .slice none 0 0 := by cases s <;> first | exact a1 | (cases hs)
  subst hv1
  obtain ⟨hL, rfl⟩ := a2
  obtain ⟨hL1, b, hb⟩ := hL L' (List.mem_singleton.2 rfl)
  have hbox := h.obs.rep L' hL1
  rw [ho] at hbox
  obtain ⟨b', c, t, fr, e1, e2, e3, e4, e5⟩ := hbox
  rw [hb] at e1
  obtain rfl : b = b' := by simpa using e1
  have hc0 := (e5 0 (by simp)).2
  have hread := toVal_rep h.obs (RVRep.toTV (P := Tryz.prog) (J := J) (S := B.S) hc0) hl
  have hcell : w.cell? ⟨b, 0, none⟩ = some (c.getD 0 undef) := by
    rw [cell_of e2]
    have : 0 < c.size := by rw [e4]; simp
    simp [this]
  have hlt : b < w.heap.size := (Array.getElem?_eq_some_iff.1 e2).1
  have hFO : ∀ q, FO B βs obs w q → q < w.heap.size := fun q hq => by
    rcases hq with hq | hq
    · exact (h.notOwn hq).1
    · exact (h.own q hq).2
  have hgv : GivesB Tryz.prog 4 258 #[.pointer (some ⟨b, 0, none⟩)] (l.map fun s => s.data.toList) w := by
    intro ll J' W hW hJ hY h0
    have hc' := (hW.cell (p := ⟨b, 0, none⟩) hlt).trans hcell
    rcases strs_cells hread with ⟨q1, A, cc, q2⟩ | ⟨bb, off, cc, q2, q3, q4, q5⟩
    · rw [q2] at hc'
      subst q1
      exact values1_nil_in 4 ll b A cc J' W hc' h0
    · rw [q2] at hc'
      have hbb := hFO bb q4
      refine values1_in 4 (by omega) ll b w.heap.size bb off cc (l.map fun s => s.data.toList) (by simpa using hsz) hbb w J' (fun pre x W1 p1 p2 => ?_) (fun s W' p j hj => ?_) W (by simpa using hc') h0
      · obtain ⟨fn, tmps, asg, body, z1, z2⟩ := hY pre x W1 p1 p2
        exact ⟨fn, tmps, asg, body, z1, z2.mono fun e W' q => ⟨q.1, q.2.1⟩⟩
      · have hj' : j < l.length := by simpa using hj
        rw [(hJ s W' p).cell (p := ⟨bb, off + j, none⟩) hbb, q5 j hj', List.getElem_map]
  have hnum : (([L'].map (bv βs)).toArray : Array Value) = #[.pointer (some ⟨b, 0, none⟩)] := by simp [hb]
  have hrun := callsIn_wide.1 (appendSeqB_in L 5 (by omega) 258 #[.pointer (some ⟨b, 0, none⟩)] eg (l.map fun s => s.data.toList) (by unfold maxLen; simp; omega) (by simp; omega) w hgv)
  rw [hnum]
  refine hrun.mono fun e w' ⟨v, g1, g3, g5⟩ => ?_
  refine ⟨v, g1, βs ++ [v], h.fresh (.inl rfl) g5.os g5.tape g5.output g5.size (fun q hq _ => g5.block q hq) (fun q hq _ => g5.block q hq) (fun q _ hq => ?_) (fun hF => ?_), ⟨by simp [h.obs.len], ?_⟩⟩
  · rcases g3.2 with ⟨rfl, g6⟩ | ⟨g, cap, cur, rfl, g6, g7, g8, g9, g10, g11⟩
    · cases hq
    · cases hq
      exact ⟨.inl g6, (Array.getElem?_eq_some_iff.1 g7).1⟩
  · rcases g3.2 with ⟨rfl, g6⟩ | ⟨g, cap, cur, rfl, g6, g7, g8, g9, g10, g11⟩
    · refine .inl ⟨rfl, ?_⟩
      simpa using g6
    · refine .inr ⟨g, 0, cap, cur, _, (0, 0), by simp, g7, fun o ho => by simp, by rw [g10]; show 0 + cap * 1 ≤ cap * 1; omega, by simpa using g8, fun i hi => ?_⟩
      refine ⟨[.string l[i]], rfl, fun j hj => ?_, rfl⟩
      have : j = 0 := by simp only [Kd.sz] at hj; omega
      subst this
      have h12 : (cur.toList.take ((l.map fun s => s.data.toList).length * 1))[i]? = ((l.map fun s => s.data.toList).map encStr)[i]? := by rw [g11]
      rw [List.getElem?_take, if_pos (by simp; omega), List.getElem?_map, List.getElem?_map, List.getElem?_eq_getElem hi] at h12
      simp only [Kd.sz, Nat.mul_one, Nat.add_zero, Nat.zero_add, List.getElem?_cons_zero]
      rw [← Array.getElem?_toList, h12]; rfl
  · rw [bv_append, h.obs.len, if_neg (by omega), if_pos rfl]
def givAps (_ : Nat → Option YFn) (g : Nat) : Option YFn := bif Nat.beq g 274 then some (apsF 258) else none
set_option maxRecDepth 100000 in
theorem givAps_ok {J : Inv} : ∀ y : Nat → Option YFn, (∀ g F, y g = some F → YOK Tryz.prog J g F) → ∀ g F, givAps y g = some F → YOK Tryz.prog J g F := by
  intro y hy g F h
  unfold givAps at h
  cases h2 : Nat.beq g 274 with
  | true =>
    rw [h2] at h
    obtain rfl := Nat.eq_of_beq_eq_true h2
    cases h
    exact yok_aps (ρ := Tryz.appendSeqS_ren) Tryz.appendSeqS ⟨Tryz.f274, rfl, rfl, by decide⟩ (enters_of Tryz.func258 (by kernel_rfl) rfl)
  | false => rw [h2] at h; cases h
end Go.Proofs.YtbliiipcjbmbiaaGreatDoor.Ev
