/- Maps with strings as keys, told as lists of pairs: made, looked up, written, kept. Over any program. No conditions but those in the statements. -/
import Derived.Test.YtjdfbpjbobmgdaaWMore
import Derived.Maps.Own
import Derived.Maps.OwnOps
set_option linter.unusedVariables false
namespace Go.Proofs.Ytjdfbpjbobmgdaa.MapWords
open Go.RowKit Go.ChangeMaps Go.MapKept Go.Proofs.YtjdfbpjbobmgdaaW.PrintWords Go.Proofs.YtjdfbpjbobmgdaaW.PrintLast Go.Proofs.YtjdfbpjbobmgdaaW.PrintMore

def mget {α : Type} : List (ByteArray × α) → ByteArray → Option α
  | [], _ => none
  | p :: m, k => if k = p.1 then some p.2 else mget m k
def mput {α : Type} : List (ByteArray × α) → ByteArray → α → List (ByteArray × α)
  | [], k, x => [(k, x)]
  | p :: m, k, x => if k = p.1 then (p.1, x) :: m else p :: mput m k x
theorem mget_put_same {α : Type} (m : List (ByteArray × α)) (k : ByteArray) (x : α) : mget (mput m k x) k = some x := by
  induction m with
  | nil => simp [mput, mget]
  | cons p m ih =>
    by_cases h : k = p.1
    · simp [mput, mget, h]
    · simp [mput, mget, h, ih]
theorem mget_put_other {α : Type} (m : List (ByteArray × α)) (k k' : ByteArray) (x : α) (hne : k' ≠ k) : mget (mput m k x) k' = mget m k' := by
  induction m with
  | nil => simp [mput, mget, hne]
  | cons p m ih =>
    by_cases h : k = p.1
    · subst h
      simp [mput, mget, hne]
    · by_cases h' : k' = p.1
      · simp [mput, mget, h, h']
      · simp [mput, mget, h, h', ih]

def Zip {α : Type} (E : α → Value → Prop) : List MapEntry → List (ByteArray × α) → Prop
  | [], [] => True
  | e :: es, p :: m => e.key = .string p.1 ∧ E p.2 e.val ∧ Zip E es m
  | _, _ => False
theorem Zip.len {α : Type} {E : α → Value → Prop} : ∀ {es : List MapEntry} {m : List (ByteArray × α)}, Zip E es m → es.length = m.length
  | [], [], _ => rfl
  | _ :: _, _ :: _, h => by simp [h.2.2.len]
theorem Zip.snoc {α : Type} {E : α → Value → Prop} {e : MapEntry} {p : ByteArray × α} (hk : e.key = .string p.1) (hv : E p.2 e.val) : ∀ {es : List MapEntry} {m : List (ByteArray × α)}, Zip E es m → Zip E (es ++ [e]) (m ++ [p])
  | [], [], _ => ⟨hk, hv, trivial⟩
  | _ :: _, _ :: _, h => ⟨h.1, h.2.1, h.2.2.snoc hk hv⟩
theorem Zip.imp {α : Type} {E E' : α → Value → Prop} (hE : ∀ x v, E x v → E' x v) : ∀ {es : List MapEntry} {m : List (ByteArray × α)}, Zip E es m → Zip E' es m
  | [], [], _ => trivial
  | _ :: _, _ :: _, h => ⟨h.1, hE _ _ h.2.1, h.2.2.imp hE⟩
theorem zip_miss {α : Type} {E : α → Value → Prop} (s : ByteArray) : ∀ {es : List MapEntry} {m : List (ByteArray × α)} (i : Nat), Zip E es m → mget m s = none → Instr.findNow .string (.string s) es i = some none ∧ (∀ e ∈ es, e.key ≠ .string s)
  | [], [], i, _, _ => ⟨rfl, by simp⟩
  | e :: es, p :: m, i, h, hg => by
    have hne : ¬ s = p.1 := by
      intro h'
      simp [mget, h'] at hg
    have hg' : mget m s = none := by simpa [mget, hne] using hg
    obtain ⟨h1, h2⟩ := zip_miss s (i + 1) h.2.2 hg'
    refine ⟨?_, ?_⟩
    · have hb : (s == p.1) = false := by rw [Bool.eq_false_iff]; exact fun h' => hne ((bytes_beq _ _).1 h')
      simp [Instr.findNow, h.1, Instr.sameNow, hb, h1]
    · intro e' he'
      rcases List.mem_cons.1 he' with rfl | he'
      · rw [h.1]
        intro hh
        injection hh with hh
        exact hne hh.symm
      · exact h2 e' he'
theorem zip_hit {α : Type} {E : α → Value → Prop} (s : ByteArray) (x : α) : ∀ {es : List MapEntry} {m : List (ByteArray × α)} (i : Nat), Zip E es m → mget m s = some x →
    ∃ j e, Instr.findNow .string (.string s) es i = some (some (i + j, e.val)) ∧ es[j]? = some e ∧ e.key = .string s ∧ E x e.val ∧ ∀ x' v', E x' v' → Zip E (es.modify j fun e => { e with key := .string s, val := v' }) (mput m s x')
  | [], [], _, _, hg => by simp [mget] at hg
  | e :: es, p :: m, i, h, hg => by
    by_cases hs : s = p.1
    · refine ⟨0, e, ?_, rfl, by rw [h.1, hs], ?_, ?_⟩
      · have hb : (s == p.1) = true := (bytes_beq _ _).2 hs
        simp [Instr.findNow, h.1, Instr.sameNow, hb]
      · have : p.2 = x := by simpa [mget, hs] using hg
        rw [← this]
        exact h.2.1
      · intro x' v' hv'
        simp only [List.modify_zero_cons, mput, hs, if_true]
        exact ⟨rfl, hv', h.2.2⟩
    · have hg' : mget m s = some x := by simpa [mget, hs] using hg
      obtain ⟨j, e', h1, h2, h3, h4, h5⟩ := zip_hit s x (i + 1) h.2.2 hg'
      refine ⟨j + 1, e', ?_, by simpa using h2, h3, h4, ?_⟩
      · have hb : (s == p.1) = false := by rw [Bool.eq_false_iff]; exact fun h' => hs ((bytes_beq _ _).1 h')
        simp only [Instr.findNow, h.1, Instr.sameNow, hb]
        rw [h1]
        congr 3
        omega
      · intro x' v' hv'
        simp only [List.modify_succ_cons, mput, hs, if_false]
        exact ⟨h.1, h.2.1, h5 x' v' hv'⟩

/-- Block b of w is a map of strings that holds the pairs m; E: how an element is told by its value. -/
def HasMap {α : Type} (E : α → Value → Prop) (w : World) (b : Nat) (m : List (ByteArray × α)) : Prop :=
  ∃ es clock, w.heap[b]? = some (.map es clock) ∧ Stamped es clock ∧ Zip E es.toList m
section
variable {α : Type} {E : α → Value → Prop} {w w1 : World} {b : Nat} {m : List (ByteArray × α)}
theorem HasMap.made (E : α → Value → Prop) (w : World) : HasMap E (w.alloc (.map #[] 0)) w.heap.size [] := ⟨#[], 0, (MapKept.heap_alloc w _).1, stamped_empty 0, trivial⟩
theorem HasMap.lt (h : HasMap E w b m) : b < w.heap.size := by
  obtain ⟨es, clock, hb, _⟩ := h
  exact (Array.getElem?_eq_some_iff.1 hb).1
theorem HasMap.move (h : HasMap E w b m) (hk : w1.heap[b]? = w.heap[b]?) : HasMap E w1 b m := by
  obtain ⟨es, clock, hb, r⟩ := h
  exact ⟨es, clock, hk.trans hb, r⟩
theorem HasMap.below (h : HasMap E w b m) (hb : Below w.heap.size w w1) : HasMap E w1 b m := h.move (hb.block b h.lt)
theorem HasMap.grown {row : Option Nat} (h : HasMap E w b m) (hg : w.grownBy w1 row) (hne : some b ≠ row) : HasMap E w1 b m := h.move (hg.block b h.lt hne)
theorem HasMap.alloc (h : HasMap E w b m) (o : Obj) : HasMap E (w.alloc o) b m := h.below (below_alloc (Below.refl _ _) o)
theorem HasMap.drewN (h : HasMap E w b m) (n : Nat) : HasMap E (w.drewN n) b m := h
/-- No row of cells is this block. -/
theorem HasMap.ne_cells (h : HasMap E w b m) {k : Nat} {cells : Array Value} {q : Nat} (hc : w.heap[k]? = some (.cells cells q (0, 0))) : k ≠ b := by
  obtain ⟨es, clock, hb, _⟩ := h
  rintro rfl
  rw [hb] at hc
  injection hc with hc
  cases hc
theorem HasMap.R_keep {β : Type} {d : Kd β} {e base : Nat} {ok : Nat → Prop} {v : Value} {xs : List β} (h : HasMap E w b m) (hr : d.R e w base ok v xs) (hg : w.grownBy w1 (some b)) : d.R e w1 base ok v xs :=
  Kd.R_mono (Kd.R_grown (Kd.R_bound hr) hg (fun k hk e => by
    obtain ⟨_, _, _, _, _, cells, hc⟩ := hk
    injection e with e
    exact h.ne_cells hc e)) (fun _ hk => hk.1)

variable {P : Program} {t k e : TypeId}
theorem HasMap.lookup (h : HasMap E w b m) (ht : P.underlying t = some (.map k e)) (hk : P.underlying k = some .string) {z : Value} (hz : (zeroValue e).run P w = .ok z w) (s : ByteArray) (ok : Bool) :
    ∃ v, (Instr.lookup t (.map (some b)) (.string s) ok).run P w = .ok (if ok then .tuple #[v, .bool (mget m s).isSome] else v) w ∧ (∀ x, mget m s = some x → E x v) ∧ (mget m s = none → v = z) := by
  obtain ⟨es, clock, hb, _, hzip⟩ := h
  have hc : ∀ em, (Instr.checkKey em 10000 k (.string s)).run P w = .ok () w := fun em => run_checkKey hk (by simp [IsKey]) em 9999
  cases hg : mget m s with
  | none =>
    obtain ⟨h1, _⟩ := zip_miss s 0 hzip hg
    refine ⟨z, ?_, by simp, fun _ => rfl⟩
    simp [Instr.lookup, run_underlying ht, MapKept.run_getObj_map hb, hc, Instr.findKey, run_underlying hk, h1, hz, Result.andThen]
  | some x =>
    obtain ⟨j, e0, h1, _, _, h4, _⟩ := zip_hit s x 0 hzip hg
    refine ⟨e0.val, ?_, fun y hy => by injection hy with hy; subst hy; exact h4, by simp⟩
    simp [Instr.lookup, run_underlying ht, MapKept.run_getObj_map hb, hc, Instr.findKey, run_underlying hk, h1, Result.andThen]
theorem run_keyThatStays_string (s : ByteArray) (w : World) : (Instr.keyThatStays (.string s) (.string s)).run P w = .ok (.string s) w := by
  have h : (s == s) = true := (bytes_beq s s).2 rfl
  simp [Instr.keyThatStays, Instr.sameBits, h]
theorem HasMap.update (h : HasMap E w b m) (ht : P.underlying t = some (.map k e)) (hk : P.underlying k = some .string) (s : ByteArray) {x : α} {v : Value} (hv : E x v) :
    ∃ w1, (Instr.mapUpdate t (.map (some b)) (.string s) v).run P w = .ok () w1 ∧ HasMap E w1 b (mput m s x) ∧ w.grownBy w1 (some b) := by
  obtain ⟨es, clock, hb, hs, hzip⟩ := h
  have hc : ∀ em, (Instr.checkKey em 10000 k (.string s)).run P w = .ok () w := fun em => run_checkKey hk (by simp [IsKey]) em 9999
  have hg : ∀ o, w.grownBy (setBlock w b o) (some b) := fun o => ⟨rfl, rfl, rfl, by simp [setBlock], fun i _ hi => heap_setBlock_other hb _ (fun e => hi (by rw [e]))⟩
  have ml : ∀ {es : List MapEntry} {m : List (ByteArray × α)}, Zip E es m → mget m s = none → Zip E (es ++ [⟨.string s, v, clock⟩]) (mput m s x) := by
    intro es m
    induction es generalizing m with
    | nil =>
      intro hz _
      match m, hz with
      | [], _ => exact ⟨rfl, hv, trivial⟩
    | cons e0 es ih =>
      intro hz hm
      match m, hz, hm with
      | p :: m, hz, hm =>
        have hne : ¬ s = p.1 := by
          intro h'
          simp [mget, h'] at hm
        have hm' : mget m s = none := by simpa [mget, hne] using hm
        simp only [mput, hne, if_false]
        exact ⟨hz.1, hz.2.1, ih hz.2.2 hm'⟩
  cases hgt : mget m s with
  | none =>
    obtain ⟨h1, h2⟩ := zip_miss s 0 hzip hgt
    refine ⟨setBlock w b (.map (es.push ⟨.string s, v, clock⟩) (clock + 1)), ?_, ⟨_, _, heap_setBlock_same hb _, stamped_push hs (fun x hx => h2 x (by simpa using hx)), ?_⟩, hg _⟩
    · simp [Instr.mapUpdate, run_underlying ht, MapKept.run_getObj_map hb, hc, Instr.findKey, run_underlying hk, h1, MapKept.run_setObj_map _ hb, Result.andThen, setBlock]
    · simpa using ml hzip hgt
  | some y =>
    obtain ⟨j, e0, h1, h2, h3, _, h5⟩ := zip_hit s y 0 hzip hgt
    have h2' : es[j]? = some e0 := by simpa using h2
    refine ⟨setBlock w b (.map (es.modify j fun e => { e with key := .string s, val := v }) clock), ?_, ⟨_, _, heap_setBlock_same hb _, stamped_modify hs j _ (fun _ _ => rfl) (fun e _ he => ?_), ?_⟩, hg _⟩
    · simp [Instr.mapUpdate, run_underlying ht, MapKept.run_getObj_map hb, hc, Instr.findKey, run_underlying hk, h1, h2', h3, run_keyThatStays_string, MapKept.run_setObj_map _ hb, Result.andThen, setBlock]
    · rw [h2'] at he
      injection he with he
      subst he
      exact h3.symm
    · rw [Array.toList_modify]
      exact h5 x v hv

variable {ops : Array Oper} {rest : List Oper} {o : Oper} {a : Act} {Q : Exit → Act → World → Prop}
/-- 'm[k] = v', for the walk. -/
theorem wp_mapUpdate (hgd : o.guard = none) (mo xo vo : Operand) (t : TypeId) (hop : o.op = Op.mapUpdate t mo xo vo) (ht : P.underlying t = some (.map k e)) (hk : P.underlying k = some .string)
    (hm : a.eval mo = .map (some b)) (s : ByteArray) (hx : a.eval xo = .string s) (v : Value) (hv : a.eval vo = v) (h : HasMap E w b m) (x : α) (hE : E x v)
    (hK : ∀ w1, HasMap E w1 b (mput m s x) → w.grownBy w1 (some b) → wpList P ops Q rest (a.put o.dst undef) w1) : wpList P ops Q (o :: rest) a w := by
  refine wpList_plain hgd fun K' hK' => ?_
  obtain ⟨w1, hrun, r1, r2⟩ := h.update ht hk s hE
  unfold Oper.wp
  simp [execOp, hop, hm, hx, hv, hrun, Result.andThen]
  exact hK' _ _ (hK w1 r1 r2)
/-- 'm[k]' or 'v, ok := m[k]', for the walk. -/
theorem wp_lookup (hgd : o.guard = none) (mo xo : Operand) (t : TypeId) (ok : Bool) (hop : o.op = Op.lookup t mo xo ok) (ht : P.underlying t = some (.map k e)) (hk : P.underlying k = some .string)
    (z : Value) (hz : (zeroValue e).run P w = .ok z w) (hm : a.eval mo = .map (some b)) (s : ByteArray) (hx : a.eval xo = .string s) (h : HasMap E w b m)
    (hK : ∀ v, (∀ x, mget m s = some x → E x v) → (mget m s = none → v = z) → wpList P ops Q rest (a.put o.dst (if ok then .tuple #[v, .bool (mget m s).isSome] else v)) w) : wpList P ops Q (o :: rest) a w := by
  refine wpList_plain hgd fun K' hK' => ?_
  obtain ⟨v, hrun, r1, r2⟩ := h.lookup ht hk hz s ok
  unfold Oper.wp
  simp [execOp, hop, hm, hx, hrun, Result.andThen]
  exact hK' _ _ (hK v r1 r2)
end
/-- Bools in a map. -/
def EB (x : Bool) (v : Value) : Prop := v = .bool x

end Go.Proofs.Ytjdfbpjbobmgdaa.MapWords
