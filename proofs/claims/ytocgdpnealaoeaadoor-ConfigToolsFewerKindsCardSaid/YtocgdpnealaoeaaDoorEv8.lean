/- Contracts of the library as functions of the evaluator: strings.Trim, Join, Cut, Compare (this session's own). No condition. -/
import Derived.Test.YtocgdpnealaoeaaDoorEv7
import Derived.Shelf.Strings.SlTrimAscii
import Derived.Lib.Join
import Derived.Lib.IndexMore
namespace Go.Proofs.YtocgdpnealaoeaaDoor.Ev
open Go.RowKit
set_option linter.unusedVariables false
set_option linter.unusedSimpArgs false
variable {P : Program} {J : Inv}

def trimF (s c : ByteArray) : Option ByteArray := if s.size ≤ 9223372036854775807 ∧ c.size < 4294967281 ∧ c.data.toList.all (fun b => decide (b.toNat < 128)) = true then some ⟨(Lib.trimS s.data.toList c.data.toList).toArray⟩ else none
theorem fnOK_trim {g : Nat} (henter : ∃ fn, P.funcs[g]? = some fn ∧ fn.body.isSome = true ∧ (fn.name == "runtime.NumGoroutine") = false)
    (h : ∀ (s c : ByteArray) (w : World), s.size ≤ 9223372036854775807 → c.size < 4294967281 → (∀ (j : Nat) b, c.data.toList[j]? = some b → b.toNat < 128) →
      Calls P g #[.string s, .string c] w fun en w' => en = .returned (.string ⟨(Lib.trimS s.data.toList c.data.toList).toArray⟩) ∧ Below w.heap.size w w') :
    FnOK P J g ⟨[.val .str, .val .str], [.val .str], fun _ x => trimF x.1 x.2.1⟩ := by
  refine FnOK.given henter fun k w F S x y vals hI hgz hF hargs hy => ?_
  obtain ⟨v1, r1, rfl, a1, v2, r2, rfl, a2, hr⟩ := hargs
  have hr : r2 = [] := hr
  subst hr
  obtain rfl := arg_str a1
  obtain rfl := arg_str a2
  unfold trimF at hy
  split at hy
  · rename_i hc
    cases hy
    refine (h x.1 x.2.1 w hc.1 hc.2.1 (ascii_of_all hc.2.2)).mono fun en w' ⟨h1, h2⟩ => ?_
    exact ⟨_, h1, ⟨rfl, [_], by simp [valCells, Kd.isAgg], rfl⟩, h2⟩
  · cases hy

def joinF (l : List ByteArray) (s : ByteArray) : Option ByteArray := if l.length ≤ 140737488355328 ∧ (Lib.join (l.map (·.data.toList)) s.data.toList).length ≤ 140737488355328 then some ⟨(Lib.join (l.map (·.data.toList)) s.data.toList).toArray⟩ else none
theorem fnOK_join {g : Nat} (henter : ∃ fn, P.funcs[g]? = some fn ∧ fn.body.isSome = true ∧ (fn.name == "runtime.NumGoroutine") = false)
    (h0 : ∀ (a : Option Addr) (c : Nat) (sep : ByteArray) (w : World), Calls P g #[.slice a 0 c, .string sep] w fun e w' => e = .returned (.string ⟨#[]⟩) ∧ w' = w)
    (h1 : ∀ (bk o c : Nat) (xs : List ByteArray) (sep : ByteArray) (w : World), (∀ (j : Nat) x, xs[j]? = some x → w.cell? ⟨bk, o + j, none⟩ = some (.string x)) → bk < w.heap.size → xs.length ≤ 140737488355328 → xs.length ≤ c → (Lib.join (xs.map (·.data.toList)) sep.data.toList).length ≤ 140737488355328 →
      Calls P g #[.slice (some ⟨bk, o, none⟩) xs.length c, .string sep] w fun e w' => e = .returned (.string ⟨(Lib.join (xs.map (·.data.toList)) sep.data.toList).toArray⟩) ∧ Below w.heap.size w w') :
    FnOK P J g ⟨[.val (.slice .str), .val .str], [.val .str], fun _ x => joinF x.1 x.2.1⟩ := by
  refine FnOK.given henter fun k w F S x y vals hI hgz hF hargs hy => ?_
  obtain ⟨v1, r1, rfl, a1, v2, r2, rfl, a2, hr⟩ := hargs
  have hr : r2 = [] := hr
  subst hr
  obtain rfl := arg_str a2
  unfold joinF at hy
  split at hy
  · rename_i hc
    cases hy
    rcases strs_cells a1 with ⟨q1, A, c, rfl⟩ | ⟨b, off, c, rfl, q2, q3, q4⟩
    · refine (h0 A c x.2.1 w).mono fun en w' ⟨e1, e2⟩ => ?_
      subst e2
      exact ⟨_, e1, by rw [q1]; exact ⟨rfl, [_], by simp [valCells, Kd.isAgg, Lib.join, List.intercalate], rfl⟩, Below.refl _ _⟩
    · refine (h1 b off c x.1 x.2.1 w (fun j s hj => ?_) (hF b q3) hc.1 q2 hc.2).mono fun en w' ⟨e1, e2⟩ => ?_
      · have hjl : j < x.1.length := by
          rcases Nat.lt_or_ge j x.1.length with q | q
          · exact q
          · rw [List.getElem?_eq_none q] at hj; cases hj
        rw [List.getElem?_eq_getElem hjl] at hj
        cases hj
        exact q4 j hjl
      · exact ⟨_, e1, ⟨rfl, [_], by simp [valCells, Kd.isAgg], rfl⟩, e2⟩
  · cases hy

def cutF (s p : ByteArray) : Option (ByteArray × ByteArray × Bool) := if s.size < 4294967281 then some (⟨(Lib.cut s.data.toList p.data.toList).1.toArray⟩, ⟨(Lib.cut s.data.toList p.data.toList).2.1.toArray⟩, (Lib.cut s.data.toList p.data.toList).2.2) else none
theorem fnOK_cut {g cell : Nat} (henter : ∃ fn, P.funcs[g]? = some fn ∧ fn.body.isSome = true ∧ (fn.name == "runtime.NumGoroutine") = false)
    (h : ∀ (s sep : ByteArray) (m : Int) (w : World), s.size < 4294967281 → w.cell? ⟨cell, 0, none⟩ = some (.int .i64 m) → Calls P g #[.string s, .string sep] w fun en w' =>
      en = .returned (.tuple #[.string ⟨(Lib.cut s.data.toList sep.data.toList).1.toArray⟩, .string ⟨(Lib.cut s.data.toList sep.data.toList).2.1.toArray⟩, .bool (Lib.cut s.data.toList sep.data.toList).2.2]) ∧ ∃ n, w' = w.drewN n) :
    FnOK P (cellInv cell) g ⟨[.val .str, .val .str], [.val .str, .val .str, .val .bool], fun _ x => cutF x.1 x.2.1⟩ := by
  refine ⟨henter, fun k B vals x y hB hargs hnd hG hy => ?_⟩
  obtain ⟨v1, r1, rfl, a1, v2, r2, rfl, a2, hr⟩ := hargs
  have hr : r2 = [] := hr
  subst hr
  obtain rfl := arg_str a1
  obtain rfl := arg_str a2
  obtain ⟨m, hm⟩ := hB.inv
  have hy : cutF x.1 x.2.1 = some y := hy
  unfold cutF at hy
  split at hy
  · rename_i hc
    cases hy
    refine (h x.1 x.2.1 m B.w0 hc hm).mono fun en w' ⟨e1, n, e2⟩ => ?_
    subst e2
    have hs : ∀ (F : Nat → Prop) (s : ByteArray), RdV (B.w0.drewN n) F .str (.string s) s := fun F s => ⟨rfl, [_], by simp [valCells, Kd.isAgg], rfl⟩
    have hb : ∀ (F : Nat → Prop) (s : Bool), RdV (B.w0.drewN n) F .bool (.bool s) s := fun F s => ⟨rfl, [_], by simp [valCells, Kd.isAgg], rfl⟩
    refine ⟨[_, _, _], e1, ⟨_, _, rfl, hs _ _, _, _, rfl, hs _ _, _, rfl, hb _ _⟩, by simp [ownRs], by simp [ownRs], Below.ext ?_⟩
    exact (Below.refl _ _).trans ⟨rfl, rfl, rfl, Nat.le_refl _, fun _ _ => rfl⟩
  · cases hy
theorem fnOK_compare {g : Nat} (henter : ∃ fn, P.funcs[g]? = some fn ∧ fn.body.isSome = true ∧ (fn.name == "runtime.NumGoroutine") = false)
    (h : ∀ (a b : ByteArray) (w : World), Calls P g #[.string a, .string b] w fun en w' => en = .returned (.int .i64 (Lib.compareBytes a.data.toList b.data.toList)) ∧ w' = w) :
    FnOK P J g ⟨[.val .str, .val .str], [.val (.int .i64)], fun _ x => some (Lib.compareBytes x.1.data.toList x.2.1.data.toList)⟩ := by
  refine FnOK.given henter fun k w F S x y vals hI hgz hF hargs hy => ?_
  obtain ⟨v1, r1, rfl, a1, v2, r2, rfl, a2, hr⟩ := hargs
  have hr : r2 = [] := hr
  subst hr
  obtain rfl := arg_str a1
  obtain rfl := arg_str a2
  cases hy
  refine (h x.1 x.2.1 w).mono fun en w' ⟨h1, h2⟩ => ?_
  subst h2
  exact ⟨_, h1, ⟨rfl, [_], by simp [valCells, Kd.isAgg], rfl⟩, Below.refl _ _⟩
end Go.Proofs.YtocgdpnealaoeaaDoor.Ev
