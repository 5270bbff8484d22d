/- The small evaluator is right: regions that make variables in whatever order (this session's own). No condition. -/
import Derived.Test.YtocgdpnealaoeaaDoorEv3
namespace Go.Proofs.YtocgdpnealaoeaaDoor.Ev
open Go.RowKit
set_option linter.unusedVariables false
set_option linter.unusedSimpArgs false

variable {P : Program} {J : Inv} {Γ : Ctx} {B : Base} {C : LBase} {βs : List Value} {st : St} {a : Act} {w w' : World}

theorem FnvRep.monoS {S S' : Nat → Prop} (hS : ∀ b, S b → S' b) {ka r : Kd} {f : ka.T → Option r.T} {v : Value} (h : FnvRep P J w S ka r f v) : FnvRep P J w S' ka r f v := by
  obtain ⟨h1, g, caps, h2, h2', h3⟩ := h
  exact ⟨h1, g, caps, h2, h2', fun w2 hI hg hs2 hF => h3 w2 hI hg hs2 fun b hb => hF b (hS b hb)⟩
theorem TVRep.monoS {F S S' : Nat → Prop} (hS : ∀ b, S b → S' b) {tv : TV} {v : Value} (h : TVRep P J w F S βs tv v) : TVRep P J w F S' βs tv v := by
  cases tv with
  | rop k x =>
    obtain ⟨ad, h1, h2, r⟩ := h
    exact ⟨ad, h1, h2.imp id (hS _), r⟩
  | fnv ka r f => exact FnvRep.monoS hS h
  | _ => exact h
theorem TVRep.free {F S S' : Nat → Prop} {tv : TV} {v : Value} (hn : noS tv = true) (h : TVRep P J w F S βs tv v) : TVRep P J w F S' βs tv v := by
  cases tv with
  | rop k x => cases hn
  | fnv ka r f => cases hn
  | _ => exact h
theorem evalF_noS {k : Nat} {o : Oper} {ρ : Operand → TV} {obs obs' : List Ob} {tv : TV} (h : (evalF true Γ k o ρ obs).To (tv, obs')) : noS tv = true := by
  unfold evalF at h
  simp only at h
  split at h
  · split at h
    · obtain ⟨rfl, _⟩ := Res.to_nowV h
      rfl
    · exact (Res.to_fail h).elim
  · obtain ⟨p, h1, h2⟩ := Res.to_mapR h
    unfold keepNoS at h2
    split at h2
    · rename_i q
      cases h2
      exact q
    · cases h2
theorem evalF_plain {k : Nat} {o : Oper} {ρ : Operand → TV} {obs obs' : List Ob} {tv : TV} (ha : isAlloc o = none) (h : (evalF true Γ k o ρ obs).To (tv, obs')) : (evalOp Γ (fun _ => false) k o ρ obs).To (tv, obs') := by
  unfold evalF at h
  simp only [ha] at h
  obtain ⟨p, h1, h2⟩ := Res.to_mapR h
  unfold keepNoS at h2
  split at h2
  · cases h2; exact h1
  · cases h2
theorem evalF_alloc {k t : Nat} {o : Oper} {ρ : Operand → TV} {obs obs' : List Ob} {tv : TV} (ha : isAlloc o = some t) (h : (evalF true Γ k o ρ obs).To (tv, obs')) : tv = .dead ∧ o.guard = none ∧ ∃ kd, kindOf Γ t = some kd := by
  unfold evalF at h
  simp only [ha] at h
  split at h
  · rename_i kd hg hk
    obtain ⟨rfl, _⟩ := Res.to_nowV h
    exact ⟨rfl, hg, kd, hk⟩
  · exact (Res.to_fail h).elim

/-! ### what holds, but for blocks that nothing refers to yet -/
structure RepG (P : Program) (J : Inv) (B : Base) (C : LBase) (βs : List Value) (st : St) (a : Act) (w : World) (F : Nat → Prop) : Prop where
  ext : Ext B w
  own : ∀ b, Own βs st.obs b → (B.n0 ≤ b ∨ B.G b) ∧ b < w.heap.size
  inj : ∀ L L' b, L < βs.length → L' < βs.length → (getOb st.obs L).live = true → (getOb st.obs L').live = true → bOf (bv βs L) = some b → bOf (bv βs L') = some b → L = L'
  len : βs.length = st.obs.length
  obs : ∀ L, L < βs.length → ObRep w F βs (bv βs L) (getOb st.obs L)
  tmps : ∀ s, TVRep P J w F B.S βs (st.get s) (a.tmps.getD s undef)
  size : a.tmps.size = st.n
  defers : a.defers = []
  keep : ∀ s, C.kept s → a.tmps.getD s undef = C.V s
  sub : ∀ b, F b → Fz B βs st.obs w b
  mono : ∀ b, C.Fb b → F b ∧ w.heap[b]? = C.wb.heap[b]?
  msize : C.wb.heap.size ≤ w.heap.size
  blen : C.βb.length ≤ βs.length
  bext : ∀ L, L < C.βb.length → bv βs L = bv C.βb L
  lock : ∀ L, L < C.βb.length → st.wr L = false → getOb st.obs L = getOb C.ob L
theorem RepG.rep {F : Nat → Prop} (h : RepG P J B C βs st a w F) : Rep P J B C βs st a w :=
  ⟨h.ext, h.own, h.inj, h.len, fun L hL => ObRep.mono (fun b hb => ⟨h.sub b hb, rfl⟩) (Nat.le_refl _) (fun _ _ => rfl) (fun _ _ _ => rfl) (h.obs L hL),
    fun s => TVRep.mono (fun _ _ => rfl) (Nat.le_refl _) (fun b hb => ⟨h.sub b hb, rfl⟩) (Nat.le_refl _) (fun _ _ => rfl) (h.tmps s), h.size, h.defers, h.keep, fun b hb => ⟨h.sub b (h.mono b hb).1, (h.mono b hb).2⟩, h.msize, h.blen, h.bext, h.lock⟩
theorem getOb_snoc (obs : List Ob) (o : Ob) (L : Nat) : getOb (obs ++ [o]) L = if L < obs.length then getOb obs L else if L = obs.length then o else .dead := by
  unfold getOb
  simp only [List.getD_eq_getElem?_getD]
  by_cases h : L < obs.length
  · rw [if_pos h, List.getElem?_append_left h]
  · rw [if_neg h, List.getElem?_append_right (by omega)]
    by_cases e : L = obs.length
    · rw [if_pos e, e]; simp
    · rw [if_neg e, List.getElem?_eq_none (by simp; omega)]; rfl
theorem bv_snoc (βs : List Value) (v : Value) (L : Nat) : bv (βs ++ [v]) L = if L < βs.length then bv βs L else if L = βs.length then v else undef := by
  unfold bv
  simp only [List.getD_eq_getElem?_getD]
  by_cases h : L < βs.length
  · rw [if_pos h, List.getElem?_append_left h]
  · rw [if_neg h, List.getElem?_append_right (by omega)]
    by_cases e : L = βs.length
    · rw [if_pos e, e]; simp
    · rw [if_neg e, List.getElem?_eq_none (by simp; omega)]; rfl
theorem own_snoc {obs : List Ob} {o : Ob} {v : Value} {b : Nat} (hl : βs.length = obs.length) (h : Own (βs ++ [v]) (obs ++ [o]) b) : Own βs obs b ∨ bOf v = some b := by
  obtain ⟨L, h1, h2, h3⟩ := h
  rw [List.length_append, List.length_singleton] at h1
  rw [getOb_snoc] at h2
  rw [bv_snoc] at h3
  by_cases q : L < βs.length
  · rw [if_pos (by omega)] at h2
    rw [if_pos q] at h3
    exact .inl ⟨L, q, h2, h3⟩
  · rw [if_neg q, if_pos (by omega)] at h3
    exact .inr h3
theorem RepG.bind {F : Nat → Prop} (h : RepG P J B C βs st a w F) {d b t : Nat} {k : Kd} (hd : d < st.n) (hv : a.tmps.getD d undef = .pointer (some ⟨b, 0, none⟩)) (hb : w.heap[b]? = some (.cells k.zeroCells.toArray t (0, 0))) (hn : B.n0 ≤ b) (hbs : b < w.heap.size)
    (hF : ¬ F b) (hno : ¬ Own βs st.obs b) : RepG P J B C (βs ++ [.pointer (some ⟨b, 0, none⟩)]) ((st.with (st.obs ++ [.box (zleaves k)])).put (some d) (.ptr st.obs.length 0)) a w F := by
  have hl := h.len
  have hgl : ∀ L, L < βs.length → getOb (st.obs ++ [.box (zleaves k)]) L = getOb st.obs L := fun L hL => by rw [getOb_snoc, if_pos (by omega)]
  have hbl : ∀ L, L < βs.length → bv (βs ++ [.pointer (some ⟨b, 0, none⟩)]) L = bv βs L := fun L hL => by rw [bv_snoc, if_pos hL]
  have hge : getOb (st.obs ++ [.box (zleaves k)]) βs.length = .box (zleaves k) := by rw [getOb_snoc, if_neg (by omega), if_pos hl]
  have hbe : bv (βs ++ [.pointer (some ⟨b, 0, none⟩)]) βs.length = .pointer (some ⟨b, 0, none⟩) := by rw [bv_snoc, if_neg (by omega), if_pos rfl]
  have hcase : ∀ L, L < (βs ++ [Value.pointer (some ⟨b, 0, none⟩)]).length → L < βs.length ∨ L = βs.length := fun L hL => by
    rw [List.length_append, List.length_singleton] at hL; omega
  have hob : ((st.with (st.obs ++ [.box (zleaves k)])).put (some d) (.ptr st.obs.length 0)).obs = st.obs ++ [.box (zleaves k)] := rfl
  have hle : βs.length ≤ (βs ++ [Value.pointer (some ⟨b, 0, none⟩)]).length := by simp
  refine ⟨h.ext, fun b' hb' => ?_, fun L L' b' h1 h2 h3 h4 h5 h6 => ?_, ?_, fun L hL => ?_, fun s => ?_, h.size, h.defers, h.keep, fun b' hb' => ?_, h.mono, h.msize, Nat.le_trans h.blen hle, fun L hL => ?_, fun L hL hw => ?_⟩
  · rcases own_snoc hl hb' with q | q
    · exact h.own b' q
    · simp only [bOf, Option.some.injEq] at q
      subst q
      exact ⟨.inl hn, hbs⟩
  · rw [hob] at h3 h4
    rcases hcase L h1 with q | q <;> rcases hcase L' h2 with q' | q'
    · rw [hgl L q] at h3
      rw [hgl L' q'] at h4
      rw [hbl L q] at h5
      rw [hbl L' q'] at h6
      exact h.inj L L' b' q q' h3 h4 h5 h6
    · rw [hgl L q] at h3
      rw [hbl L q] at h5
      rw [q', hbe] at h6
      simp only [bOf, Option.some.injEq] at h6
      exact absurd ⟨L, q, h3, by rw [h5, h6]⟩ hno
    · rw [hgl L' q'] at h4
      rw [hbl L' q'] at h6
      rw [q, hbe] at h5
      simp only [bOf, Option.some.injEq] at h5
      exact absurd ⟨L', q', h4, by rw [h6, h5]⟩ hno
    · omega
  · rw [hob]; simp [hl]
  · rw [hob]
    rcases hcase L hL with q | q
    · rw [hgl L q, hbl L q]
      exact ObRep.mono (fun b hb => ⟨hb, rfl⟩) hle hbl (fun _ _ _ => rfl) (h.obs L q)
    · rw [q, hge, hbe]
      have hz := zleaves_rep (w := w) (F := F) (βs := βs ++ [.pointer (some ⟨b, 0, none⟩)]) k
      exact ⟨b, _, t, (0, 0), rfl, hb, NF.zero _, by simp [hz.1], fun i hi => by
        have hi' : i < k.zeroCells.length := by rw [← hz.1]; exact hi
        have := hz.2 i hi hi'
        simpa [hi'] using this⟩
  · have hput : ((st.with (st.obs ++ [.box (zleaves k)])).put (some d) (.ptr st.obs.length 0)).get s = if d < st.n ∧ d = s then .ptr st.obs.length 0 else st.get s := get_put (st := st.with (st.obs ++ [.box (zleaves k)])) s
    rw [hput]
    by_cases e : d = s
    · subst e
      rw [if_pos ⟨hd, rfl⟩]
      refine ⟨by rw [List.length_append, List.length_singleton]; omega, b, ?_, hv⟩
      rw [← hl]; exact hbe
    · rw [if_neg (fun q => e q.2)]
      exact TVRep.mono (fun _ _ => rfl) (Nat.le_refl _) (fun b hb => ⟨hb, rfl⟩) hle hbl (h.tmps s)
  · rw [hob]
    rcases h.sub b' hb' with q | ⟨q1, q2, q3⟩
    · exact .inl q
    · refine .inr ⟨q1, q2, fun ho => ?_⟩
      rcases own_snoc hl ho with q | q
      · exact q3 q
      · simp only [bOf, Option.some.injEq] at q
        subst q
        exact hF hb'
  · rw [hbl L (Nat.lt_of_lt_of_le hL h.blen)]
    exact h.bext L hL
  · rw [hob, hgl L (Nat.lt_of_lt_of_le hL h.blen)]
    exact h.lock L hL hw

/-- a variable that was made, and that nothing refers to yet -/
def Made (Γ : Ctx) (B : Base) (βs : List Value) (obs : List Ob) (n : Nat) (a : Act) (w : World) (F : Nat → Prop) (o : Oper) : Prop :=
  ∀ t, isAlloc o = some t → ∃ d b k, o.dst = some d ∧ d < n ∧ kindOf Γ t = some k ∧ a.tmps.getD d undef = .pointer (some ⟨b, 0, none⟩) ∧ w.heap[b]? = some (.cells k.zeroCells.toArray t (0, 0)) ∧ B.n0 ≤ b ∧ b < w.heap.size ∧ ¬ F b ∧ ¬ Own βs obs b
def Apart (a : Act) (o1 o2 : Oper) : Prop := ∀ t1 t2 d1 d2 b, isAlloc o1 = some t1 → isAlloc o2 = some t2 → o1.dst = some d1 → o2.dst = some d2 → a.tmps.getD d1 undef = .pointer (some ⟨b, 0, none⟩) → a.tmps.getD d2 undef = .pointer (some ⟨b, 0, none⟩) → False
theorem bind_all {R : Type} {K : St → Option R} {r : R} {F : Nat → Prop} : ∀ (l : List Oper) {βs : List Value} {st : St}, RepG P J B C βs st a w F → (∀ o ∈ l, Made Γ B βs st.obs st.n a w F o) → l.Pairwise (Apart a) → bindA Γ l K st = some r →
    ∃ βs' st', RepG P J B C βs' st' a w F ∧ st'.lk = st.lk ∧ st'.op = st.op ∧ st'.n = st.n ∧ K st' = some r
  | [], βs, st, h, _, _, he => ⟨βs, st, h, rfl, rfl, rfl, he⟩
  | o :: l, βs, st, h, hm, hp, he => by
    obtain ⟨hp1, hp2⟩ := List.pairwise_cons.1 hp
    rw [bindA] at he
    split at he
    · exact bind_all l h (fun q hq => hm q (List.mem_cons_of_mem _ hq)) hp2 he
    · rename_i t ht
      split at he
      · rename_i kd hg hkd
        obtain ⟨d, b, k, m1, m2, m3, m4, m5, m6, m7, m8, m9⟩ := hm o (List.mem_cons_self ..) t ht
        obtain rfl : k = kd := Option.some.inj (m3.symm.trans hkd)
        rw [m1] at he
        have h2 := h.bind m2 m4 m5 m6 m7 m8 m9
        obtain ⟨βs', st', r1, r2, r3, r4, r5⟩ := bind_all l h2 (fun q hq t' ht' => by
          obtain ⟨d', b', k', n1, n2, n3, n4, n5, n6, n7, n8, n9⟩ := hm q (List.mem_cons_of_mem _ hq) t' ht'
          refine ⟨d', b', k', n1, n2, n3, n4, n5, n6, n7, n8, fun ho => ?_⟩
          rcases own_snoc h.len ho with z | z
          · exact n9 z
          · simp only [bOf, Option.some.injEq] at z
            subst z
            exact hp1 q hq t t' d d' b ht ht' m1 n1 m4 n4) hp2 he
        exact ⟨βs', st', r1, r2, r3, r4, r5⟩
      · cases he

/-- what holds when some of the operations have been carried out -/
structure AI (P : Program) (J : Inv) (Γ : Ctx) (B : Base) (βs : List Value) (st : St) (ops : Array Oper) (m : Nat) (a0 : Act) (ws : World) (listed : Array Bool) (stL : St) (a : Act) (w : World) (F : Nat → Prop) : Prop where
  obs : ∀ L, L < βs.length → ObRep w F βs (bv βs L) (getOb st.obs L)
  tmps : ∀ s, TVRep P J w F (fun b => b < w.heap.size ∧ ¬ Own βs st.obs b) βs (stL.get s) (a.tmps.getD s undef)
  fin : ∀ b, F b → (B.F0 b ∨ B.n0 ≤ b ∨ B.G b) ∧ b < w.heap.size ∧ ¬ Own βs st.obs b
  big : ∀ b, Fz B βs st.obs ws b → F b
  size : a.tmps.size = st.n
  defers : a.defers = []
  keep : ∀ s, (∀ (i : Nat) (o : Oper), i < m → ops[i]? = some o → listed.getD i true = true → o.dst ≠ some s) → a.tmps.getD s undef = a0.tmps.getD s undef
  heap : ∀ b, b < ws.heap.size → ¬ Own βs st.obs b → w.heap[b]? = ws.heap[b]?
  grow : ws.heap.size ≤ w.heap.size
  os : w.os = ws.os
  tape : w.tape = ws.tape
  output : w.output = ws.output
  made : ∀ (i : Nat) (o : Oper), i < m → ops[i]? = some o → listed.getD i true = true → Made Γ B βs st.obs st.n a w F o ∧ ∀ d b, (isAlloc o).isSome = true → o.dst = some d → a.tmps.getD d undef = .pointer (some ⟨b, 0, none⟩) → ws.heap.size ≤ b
  apart : ∀ (i j : Nat) (oi oj : Oper), i < m → j < m → i ≠ j → ops[i]? = some oi → ops[j]? = some oj → listed.getD i true = true → listed.getD j true = true → Apart a oi oj
theorem setIf_getD {x : Array Value} {d s : Nat} {v : Value} (hd : d < x.size) : (x.setIfInBounds d v).getD s undef = if d = s then v else x.getD s undef := by
  simp only [Array.getD_eq_getD_getElem?, Array.getElem?_setIfInBounds]
  by_cases e : d = s
  · rw [if_pos e, if_pos e, if_pos hd]; rfl
  · rw [if_neg e, if_neg e]

variable {R : Type}
open Classical in
theorem execDrawA_ok (hΓ : CtxOK P J Γ) (hB : B.Ok J) {k : Nat} {K : St → Option R} {r : R} {Q : Exit → Act → World → Prop} {ops : Array Oper} {st0 : St} {id : Nat}
    (hK : ∀ βs st' a' w', Rep P J B C βs st' a' w' → SameLocks st0 st' → K st' = some r → Q .normal a' w')
    {m : Nat} (hk : ∀ o ∈ ops.toList, ∀ d, o.dst = some d → ¬ C.kept d) (h : Rep P J B C βs st a w) (hl : SameLocks st0 st) (hoks : drawsOK false ops st.n m = true)
    (he : execDraw true Γ k ops (ops.toList.take m) (fun st1 => bindA Γ (ops.toList.take m) (fun st2 => execOps Γ k ops (ops.toList.drop m) K st2) st1) st = some r) :
    (Code.region id ops true).wp P Q a w := by
  obtain ⟨stN, hrun, hKN⟩ := draw_run he
  obtain ⟨z1, z2, z3, z4, z5⟩ := draw_rest hrun
  simp only [drawsOK, Bool.and_eq_true] at hoks
  obtain ⟨⟨hok, hlowB⟩, hrest⟩ := hoks
  have hops : ∀ i (o : Oper), i < m → ops[i]? = some o → (ops.toList.take m)[i]? = some o := fun i o him hi => by rw [List.getElem?_take, if_pos him, Array.getElem?_toList]; exact hi
  have hopsR : ∀ i (o : Oper), (ops.toList.take m)[i]? = some o → i < m ∧ ops[i]? = some o := fun i o hi => by
    rw [List.getElem?_take] at hi
    split at hi
    · rename_i q
      rw [Array.getElem?_toList] at hi
      exact ⟨q, hi⟩
    · cases hi
  have hok' : ∀ i (o : Oper), i < m → ops[i]? = some o → operOK false ops (ops.toList.take m) st.n i o = true := fun i o him hi => by
    have := drawOK_get hok i o (hops i o him hi)
    rwa [Nat.zero_add] at this
  have hlow : ∀ i (o : Oper), ops[i]? = some o → ∀ e ∈ o.after.toList, Region.binds .any e = true → e.on < i := fun i o hi e he hb => by
    have := lowOK_get hlowB i o (by rw [Array.getElem?_toList]; exact hi) e he hb
    rwa [Nat.zero_add] at this
  have hmid : ∀ (o : Oper), ops[m]? = some o → chainOK o 0 (ops.toList.take m) = true ∧ tailOK (m + 1) (ops.toList.drop (m + 1)) = true := fun o ho => by
    have hm : m < ops.size := by
      rcases Nat.lt_or_ge m ops.size with q | q
      · exact q
      · rw [Array.getElem?_eq_none q] at ho; cases ho
    have hd : ops.toList.drop m = o :: ops.toList.drop (m + 1) := by
      rw [List.drop_eq_getElem_cons (by simpa using hm)]
      rw [Array.getElem?_eq_getElem hm] at ho
      cases ho
      simp
    rw [hd] at hrest
    simpa only [Bool.and_eq_true] using hrest
  have htail : ∀ i (o : Oper), m < i → ops[i]? = some o → binder o (i - 1) = true := fun i o hmi hi => by
    have his : i < ops.size := by
      rcases Nat.lt_or_ge i ops.size with q | q
      · exact q
      · rw [Array.getElem?_eq_none q] at hi; cases hi
    have hm : m < ops.size := by omega
    have := tailOK_get (hmid ops[m] (by simp [hm])).2 (i - (m + 1)) o (by
      rw [List.getElem?_drop, Array.getElem?_toList]
      have : m + 1 + (i - (m + 1)) = i := by omega
      rw [this]; exact hi)
    have e : m + 1 + (i - (m + 1)) - 1 = i - 1 := by omega
    rwa [e] at this
  have hbindOK : ∀ i (o : Oper) (t : Nat), i < m → ops[i]? = some o → isAlloc o = some t → o.guard = none := by
    have gen : ∀ (l : List Oper) {st1 : St} {K1 : St → Option R}, bindA Γ l K1 st1 = some r → ∀ o ∈ l, ∀ t, isAlloc o = some t → o.guard = none := by
      intro l
      induction l with
      | nil => intro st1 K1 _ o ho; cases ho
      | cons q l ihl =>
        intro st1 K1 hb o ho t ht
        rw [bindA] at hb
        split at hb
        · rename_i hq
          rcases List.mem_cons.1 ho with rfl | ho
          · rw [hq] at ht; cases ht
          · exact ihl hb o ho t ht
        · rename_i t' hq
          split at hb
          · rename_i kd hg hk2
            rcases List.mem_cons.1 ho with rfl | ho
            · exact hg
            · exact ihl hb o ho t ht
          · cases hb
    intro i o t him hoi ht
    exact gen _ hKN o (List.mem_iff_getElem?.2 ⟨i, hops i o him hoi⟩) t ht
  refine wp_region_any hΓ.mixed ?_
  obtain ⟨ws, hws⟩ : ∃ ws : World, ws = { w with drawn := w.drawn + 1 } := ⟨_, rfl⟩
  have hsz0 : ws.heap.size = w.heap.size := by rw [hws]
  have hle0 : B.n0 ≤ ws.heap.size := by rw [hsz0]; exact h.ext.size
  have hownlt : ∀ b, Own βs st.obs b → (B.n0 ≤ b ∨ B.G b) ∧ b < ws.heap.size := fun b hb => by rw [hsz0]; exact h.own b hb
  have hfzlt : ∀ b, Fz B βs st.obs ws b → b < ws.heap.size ∧ ¬ Own βs st.obs b := fun b hb => by
    rcases hb with q | ⟨_, q2, q3⟩
    · have := hB.f0 b q
      refine ⟨Nat.lt_of_lt_of_le this.1 hle0, fun ho => ?_⟩
      rcases (hownlt b ho).1 with z | z
      · omega
      · exact this.2 z
    · exact ⟨q2, q3⟩
  -- the front is done: what was made gets its names
  have hfin : ∀ (listed : Array Bool) (stL : St) (a' : Act) (w' : World) (F : Nat → Prop), AI P J Γ B βs st ops m a ws listed stL a' w' F → SameLocks st0 stL → stL.n = st.n →
      (∀ t, stL.get t = if ∃ (i : Nat) (o : Oper), i < m ∧ ops[i]? = some o ∧ listed.getD i true = true ∧ o.dst = some t then stN.get t else st.get t) →
      (∀ i, i < m → i < ops.size → listed.getD i true = true) → wpList P ops Q (ops.toList.drop m) a' w' := by
    intro listed stL a' w' F hA hlL hnL hg hall
    have hlist : ∀ i (o : Oper), i < m → ops[i]? = some o → listed.getD i true = true := fun i o him hoi => hall i him (by
      rcases Nat.lt_or_ge i ops.size with q | q
      · exact q
      · rw [Array.getElem?_eq_none q] at hoi; cases hoi)
    have hget : ∀ t, stL.get t = stN.get t := fun t => by
      rw [hg t]
      split
      · rfl
      · rename_i q
        refine (z1 t fun o ho hd => ?_).symm
        obtain ⟨i, hi, rfl⟩ := List.getElem_of_mem ho
        have := hopsR i _ (List.getElem?_eq_getElem hi)
        exact q ⟨i, _, this.1, this.2, hlist i _ this.1 this.2, hd⟩
    have hG : RepG P J B C βs stN a' w' F := by
      refine ⟨⟨hA.os.trans (by rw [hws]; exact h.ext.os), hA.tape.trans (by rw [hws]; exact h.ext.tape), hA.output.trans (by rw [hws]; exact h.ext.output), Nat.le_trans hle0 hA.grow, fun b hb hGb => ?_⟩, ?_, ?_, ?_, ?_, fun s => ?_, ?_, hA.defers, fun s hs => ?_, fun b hb => ?_, fun b hb => ?_, ?_, ?_, ?_, ?_⟩
      · have hb' : b < ws.heap.size := Nat.lt_of_lt_of_le hb hle0
        rw [hA.heap b hb' fun ho => by
          rcases (hownlt b ho).1 with z | z
          · omega
          · exact hGb z, hws]
        exact h.ext.block b hb hGb
      · rw [z2]
        exact fun b hb => ⟨(hownlt b hb).1, Nat.lt_of_lt_of_le (hownlt b hb).2 hA.grow⟩
      · rw [z2]; exact h.inj
      · rw [z2]; exact h.len
      · rw [z2]; exact hA.obs
      · by_cases q : ∃ (i : Nat) (o : Oper), i < m ∧ ops[i]? = some o ∧ o.dst = some s
        · obtain ⟨i, o, q1, q2, q3⟩ := q
          have hd0 := hok' i o q1 q2
          simp only [operOK, Bool.and_eq_true] at hd0
          rw [q3] at hd0
          simp only [Bool.and_eq_true] at hd0
          obtain ⟨sti, _, _, _, tv, f4, f5⟩ := draw_at hrun i o (hops i o q1 q2)
          have hN : stN.get s = tv := f5 s q3 (by simpa [Nat.blt_eq] using hd0.1.1) fun j q' hj hq => dstOK_get hd0.1.2 j q' hq (by omega)
          have hno : noS (stN.get s) = true := by
            rw [hN]
            rcases f4 with ⟨_, obs', g2, _⟩ | ⟨_, rfl⟩
            · exact evalF_noS g2
            · rfl
          have := hA.tmps s
          rw [hget] at this
          exact TVRep.free hno this
        · have e1 : stN.get s = st.get s := by
            rw [← hget s, hg s, if_neg]
            rintro ⟨i, o, q1, q2, _, q3⟩
            exact q ⟨i, o, q1, q2, q3⟩
          have e2 := hA.keep s fun i o q1 q2 _ q3 => q ⟨i, o, q1, q2, q3⟩
          rw [e1, e2]
          refine TVRep.mono (w := w) (F := Fz B βs st.obs w) (fun b hb => ?_) (by rw [← hsz0]; exact hA.grow) (fun b hb => ?_) (Nat.le_refl _) (fun _ _ => rfl) (h.tmps s)
          · have hb' : b < ws.heap.size := Nat.lt_of_lt_of_le hb.1 hle0
            rw [hA.heap b hb' fun ho => by
              rcases (hownlt b ho).1 with z | z
              · have := hb.1; omega
              · exact hb.2 z, hws]
          · have hb2 : Fz B βs st.obs ws b := by rw [hws]; exact hb
            refine ⟨hA.big b hb2, ?_⟩
            rw [hA.heap b (hfzlt b hb2).1 (hfzlt b hb2).2, hws]
      · rw [z3]; exact hA.size
      · rw [hA.keep s fun i o q1 q2 _ q3 => hk o (by
          obtain ⟨hlt, e⟩ := Array.getElem?_eq_some_iff.1 q2
          rw [← e]; simp) s q3 hs]
        exact h.keep s hs
      · rw [z2]
        obtain ⟨q1, q2, q3⟩ := hA.fin b hb
        rcases q1 with q1 | q1
        · exact .inl q1
        · exact .inr ⟨q1, q2, q3⟩
      · obtain ⟨q1, q2⟩ := h.mono b hb
        have hb2 : Fz B βs st.obs ws b := by rw [hws]; exact q1
        refine ⟨hA.big b hb2, ?_⟩
        rw [hA.heap b (hfzlt b hb2).1 (hfzlt b hb2).2, hws]
        exact q2
      · refine Nat.le_trans h.msize ?_
        rw [← hsz0]; exact hA.grow
      · exact h.blen
      · exact h.bext
      · have hw : stN.wr = st.wr := by unfold St.wr; rw [z4, z5]
        rw [z2, hw]; exact h.lock
    have hp : (ops.toList.take m).Pairwise (Apart a') := by
      rw [List.pairwise_iff_getElem]
      intro i j hi hj hij
      have q1 := hopsR i _ (List.getElem?_eq_getElem hi)
      have q2 := hopsR j _ (List.getElem?_eq_getElem hj)
      exact hA.apart i j _ _ q1.1 q2.1 (by omega) q1.2 q2.2 (hlist i _ q1.1 q1.2) (hlist j _ q2.1 q2.2)
    have hm : ∀ o ∈ ops.toList.take m, Made Γ B βs stN.obs stN.n a' w' F o := fun o ho => by
      obtain ⟨i, hi, rfl⟩ := List.getElem_of_mem ho
      have q1 := hopsR i _ (List.getElem?_eq_getElem hi)
      rw [z2, z3]
      exact (hA.made i _ q1.1 q1.2 (hlist i _ q1.1 q1.2)).1
    obtain ⟨βs', st', r1, r2, r3, r4, r5⟩ := bind_all _ hG hm hp hKN
    have hst : SameLocks st0 st' := ⟨r2.trans (z4.trans hl.1), r3.trans (z5.trans hl.2.1), r4.trans (z3.trans hl.2.2)⟩
    exact execOps_ok hΓ hB (st0 := st0) hK (ops.toList.drop m) βs' st' a' w' (fun o ho => hk o (List.mem_of_mem_drop ho)) r1.rep hst r5
  -- what holds when some have been carried out
  have key : ∀ (fuel : Nat) (listed : Array Bool) (stL : St) (a' : Act) (w : World) (F : Nat → Prop), AI P J Γ B βs st ops m a ws listed stL a' w F → SameLocks st0 stL → stL.obs = st.obs → stL.n = st.n →
      (∀ t, stL.get t = if ∃ (i : Nat) (o : Oper), i < m ∧ ops[i]? = some o ∧ listed.getD i true = true ∧ o.dst = some t then stN.get t else st.get t) →
      listed.size = ops.size → (∀ j, m ≤ j → j < ops.size → listed.getD j true = false) →
      (∀ (j : Nat) (o : Oper), ops[j]? = some o → listed.getD j true = true → ∀ e ∈ o.after.toList, Region.binds .any e = true → listed.getD e.on true = true) →
      ((List.range ops.size).filter fun i => !listed.getD i true).length ≤ fuel → wpAny P .any ops Q fuel listed a' w := by
    intro fuel
    induction fuel with
    | zero =>
      intro listed stL a' w F h1 hl1 ho1 hn1 hg hsz hback hdn hfu
      have hall : ∀ i, i < ops.size → listed.getD i true = true := fun i hi => by
        have h0 : (List.range ops.size).filter (fun i => !listed.getD i true) = [] := List.eq_nil_of_length_eq_zero (Nat.le_zero.1 hfu)
        have := List.filter_eq_nil_iff.1 h0 i (List.mem_range.2 hi)
        simpa using this
      have hms : ops.size ≤ m := by
        rcases Nat.lt_or_ge m ops.size with q | q
        · have := hback m (Nat.le_refl _) q
          rw [hall m q] at this; cases this
        · exact q
      exact tail_sched hlow htail 0 m listed a' w (Nat.le_refl _) hsz (fun j _ hjs => hall j hjs) (fun j hj hjs => by omega) (by omega) (hfin listed stL a' w F h1 hl1 hn1 hg fun i _ hi => hall i hi)
    | succ fuel ih =>
      intro listed stL a' w F h1 hl1 ho1 hn1 hg hsz hback hdn hfu
      by_cases hall : ∀ i, i < m → i < ops.size → listed.getD i true = true
      · -- the front is done
        refine tail_sched hlow htail (fuel + 1) m listed a' w (Nat.le_refl _) hsz hall hback ?_ (hfin listed stL a' w F h1 hl1 hn1 hg hall)
        have hcnt : ((List.range ops.size).filter fun i => !listed.getD i true).length = ops.size - m := by
          have : (List.range ops.size).filter (fun i => !listed.getD i true) = (List.range ops.size).filter (fun i => decide (m ≤ i)) := List.filter_congr fun i hi => by
            have his := List.mem_range.1 hi
            by_cases q : m ≤ i
            · rw [hback i q his]; simp [q]
            · rw [hall i (by omega) his]; simp; omega
          rw [this]
          have hcount : ∀ n : Nat, ((List.range n).filter (fun i => decide (m ≤ i))).length = n - m := by
            intro n
            induction n with
            | zero => simp
            | succ n ihn =>
              rw [List.range_succ, List.filter_append, List.length_append, ihn]
              by_cases q : m ≤ n
              · simp [q]; omega
              · simp [q]; omega
          exact hcount _
        omega
      refine ⟨fun hr => ?_, fun i hi => ?_⟩
      · -- nothing is ready: all are listed
        exfalso
        refine hall ?_
        intro i
        induction i using Nat.strongRecOn with
        | _ i ihi =>
          intro him hi
          cases hb : listed.getD i true with
          | true => rfl
          | false =>
            exfalso
            have hoi : ops[i]? = some ops[i] := by simp [hi]
            have : i ∈ Region.ready .any ops listed := by
              unfold Region.ready
              refine List.mem_filter.2 ⟨List.mem_range.2 hi, ?_⟩
              rw [hb, hoi]
              simp only [Bool.not_false, Bool.true_and, Option.map_some, Option.getD_some]
              rw [← Array.all_toList]
              refine List.all_eq_true.2 fun e hm => ?_
              cases hbd : Region.binds .any e with
              | false => simp
              | true =>
                simp only [Bool.not_true, Bool.false_or]
                have h3 : e.on < i := hlow i _ hoi e hm hbd
                have h4 := ihi e.on h3 (Nat.lt_trans h3 him) (Nat.lt_trans h3 hi)
                have h5 : e.on < listed.size := by omega
                simp only [Array.getD_eq_getD_getElem?, Array.getElem?_eq_getElem h5, Option.getD_some] at h4 ⊢
                exact h4
            rw [hr] at this
            cases this
      · -- one that is ready
        unfold Region.ready at hi
        rw [List.mem_filter] at hi
        obtain ⟨hi0, hi1⟩ := hi
        have hin : i < ops.size := List.mem_range.1 hi0
        rw [Bool.and_eq_true] at hi1
        have hunl : listed.getD i true = false := by simpa using hi1.1
        have hoi : ops[i]? = some ops[i] := by simp [hin]
        have haft := hi1.2
        rw [hoi] at haft
        simp only [Option.map_some, Option.getD_some] at haft
        rw [← Array.all_toList] at haft
        obtain ⟨o, hod⟩ : ∃ o, o = ops[i] := ⟨_, rfl⟩
        rw [← hod] at hoi haft
        have hafter : ∀ e ∈ o.after.toList, Region.binds .any e = true → listed.getD e.on true = true := fun e em eb => by
          have := List.all_eq_true.1 haft e em
          rw [eb] at this
          simp only [Bool.not_true, Bool.false_or] at this
          have h5 : e.on < listed.size := by
            have := hlow i o hoi e em eb
            omega
          simp only [Array.getD_eq_getD_getElem?, Array.getElem?_eq_getElem h5, Option.getD_some] at this ⊢
          exact this
        have him : i < m := by
          rcases Nat.lt_or_ge i m with q | q
          · exact q
          · exfalso
            rcases Nat.lt_or_ge m i with q' | q'
            · obtain ⟨e, em, eb, eo⟩ := binder_mem (htail i o q' hoi)
              have := hafter e em eb
              rw [eo, hback (i - 1) (by omega) (by omega)] at this
              cases this
            · have : i = m := by omega
              subst this
              have hch := (hmid o hoi).1
              refine hall ?_
              have down : ∀ (d j : Nat), i - j ≤ d → j < i → j < ops.size → listed.getD j true = true := by
                intro d
                induction d with
                | zero => intro j h1 h2; omega
                | succ d ihd =>
                  intro j h1 h2 h3
                  have hjl : j < (ops.toList.take i).length := by simp; omega
                  rcases chainOK_get hch j hjl with ⟨j', q, q1, q2, q3⟩ | q1
                  · rw [Nat.zero_add] at q3
                    have hq := hopsR j' q q2
                    have hq' : j' < ops.size := by
                      rcases Nat.lt_or_ge j' ops.size with z | z
                      · exact z
                      · rw [Array.getElem?_eq_none z] at hq; cases hq.2
                    have := ihd j' (by omega) hq.1 hq'
                    obtain ⟨e, em, eb, eo⟩ := binder_mem q3
                    have := hdn j' q hq.2 this e em eb
                    rwa [eo] at this
                  · rw [Nat.zero_add] at q1
                    obtain ⟨e, em, eb, eo⟩ := binder_mem q1
                    have := hafter e em eb
                    rwa [eo] at this
              exact fun j hj hjs => down (i - j) j (Nat.le_refl _) hj hjs
        have hop := hok' i o him hoi
        simp only [operOK, Bool.and_eq_true] at hop
        obtain ⟨hdst, hlook⟩ := hop
        obtain ⟨d, hd⟩ : ∃ d, o.dst = some d := by
          cases hdd : o.dst with
          | none => rw [hdd] at hdst; simp at hdst
          | some d => exact ⟨d, rfl⟩
        rw [hd] at hdst
        simp only [Bool.and_eq_true] at hdst
        have hdn' : d < st.n := by simpa [Nat.blt_eq] using hdst.1
        have huniq : ∀ (j : Nat) (q : Oper), (ops.toList.take m)[j]? = some q → i ≠ j → q.dst ≠ some d := fun j q hq hne => dstOK_get hdst.2 j q hq (by rw [Nat.zero_add]; exact hne)
        obtain ⟨sti, f1, f2, f3, tv, f4, f5⟩ := draw_at hrun i o (hops i o him hoi)
        have hNd : stN.get d = tv := f5 d hd hdn' fun j q hj hq => huniq j q hq (Nat.ne_of_lt hj)
        -- what it looks at
        have hsee : ∀ t ∈ o.looksAt ops, stL.get t = sti.get t := fun t ht => by
          have hs := List.all_eq_true.1 hlook t ht
          have hs' : ∀ (j : Nat) (q : Oper), (ops.toList.take m)[j]? = some q → q.dst = some t → j < i ∧ listed.getD j true = true := fun j q hq hqd => by
            have := slotOK_get hs j q hq hqd
            rw [Nat.zero_add] at this
            obtain ⟨e, em, eb, eo⟩ := binder_mem this.2
            have := List.all_eq_true.1 haft e em
            rw [eb, eo] at this
            simp only [Bool.not_true, Bool.false_or] at this
            refine ⟨‹j < i ∧ _›.1, ?_⟩
            have hjs : j < listed.size := by have := ‹j < i ∧ _›.1; omega
            simp only [Array.getD_eq_getD_getElem?, Array.getElem?_eq_getElem hjs, Option.getD_some] at this ⊢
            exact this
          rw [hg t]
          split
          · rename_i q
            refine (f2 t fun j' q' hj' hq' hqd' => ?_).symm
            have := (hs' j' q' hq' hqd').1
            omega
          · rename_i q
            refine (f1 t fun j' q' hj' hq' hqd' => q ?_).symm
            exact ⟨j', q', (hopsR j' q' hq').1, (hopsR j' q' hq').2, (hs' j' q' hq' hqd').2, hqd'⟩
        have hoper : ∀ x ∈ o.op.operands.toList, stL.ev x = sti.ev x := fun x hx => by
          cases x with
          | tmp t =>
            refine hsee t ?_
            unfold Oper.looksAt
            refine List.mem_append_left _ (List.mem_filterMap.2 ⟨_, hx, rfl⟩)
          | _ => rfl
        -- behind it
        have hsetT : ∀ j, (listed.setIfInBounds i true).getD j true = true ↔ (j = i ∨ listed.getD j true = true) := fun j => by
          simp only [Array.getD_eq_getD_getElem?, Array.getElem?_setIfInBounds]
          by_cases e : i = j
          · subst e
            simp
            split <;> simp
          · rw [if_neg e]
            constructor
            · exact .inr
            · rintro (q | q)
              · exact absurd q.symm e
              · exact q
        have next : ∀ {v : Value} {w1 : World} {F1 : Nat → Prop}, AI P J Γ B βs st ops m a ws (listed.setIfInBounds i true) (stL.put o.dst tv) (a'.put o.dst v) w1 F1 → wpAny P .any ops Q fuel (listed.setIfInBounds i true) (a'.put o.dst v) w1 := fun {v w1 F1} hrep => by
          have hsetF : ∀ j, i ≠ j → (listed.setIfInBounds i true).getD j true = listed.getD j true := fun j hne => by
            simp only [Array.getD_eq_getD_getElem?, Array.getElem?_setIfInBounds, if_neg hne]
          refine ih _ _ _ w1 F1 hrep hl1.put (by cases o.dst <;> exact ho1) (by cases o.dst <;> exact hn1) (fun t => ?_) (by simpa using hsz) (fun j hj hjs => by rw [hsetF j (by omega)]; exact hback j hj hjs) (fun j q hq hjl e em eb => ?_) ?_
          rotate_left
          · have hjl' : listed.getD e.on true = true := by
              by_cases ej : i = j
              · subst ej
                rw [hoi] at hq
                cases hq
                exact hafter e em eb
              · rw [hsetF j ej] at hjl
                exact hdn j q hq hjl e em eb
            by_cases ee : i = e.on
            · rw [← ee] at hjl' ⊢
              simp [Array.getD_eq_getD_getElem?, show i < listed.size by omega]
            · rw [hsetF _ ee]; exact hjl'
          rotate_left
          · have hset : ∀ j, (listed.setIfInBounds i true).getD j true = true ↔ (j = i ∨ listed.getD j true = true) := fun j => by
              simp only [Array.getD_eq_getD_getElem?, Array.getElem?_setIfInBounds]
              by_cases e : i = j
              · subst e
                simp
                split <;> simp
              · rw [if_neg e]
                constructor
                · exact .inr
                · rintro (q | q)
                  · exact absurd q.symm e
                  · exact q
            rw [hd, get_put]
            by_cases e : d = t
            · subst e
              rw [if_pos ⟨by rw [hn1]; exact hdn', rfl⟩, if_pos ⟨i, o, him, hoi, (hset i).2 (.inl rfl), hd⟩, hNd]
            · rw [if_neg (fun q => e q.2), hg t]
              have : (∃ (j : Nat) (q : Oper), j < m ∧ ops[j]? = some q ∧ (listed.setIfInBounds i true).getD j true = true ∧ q.dst = some t) ↔ ∃ (j : Nat) (q : Oper), j < m ∧ ops[j]? = some q ∧ listed.getD j true = true ∧ q.dst = some t := by
                constructor
                · rintro ⟨j, q, q0, q1, q2, q3⟩
                  rcases (hset j).1 q2 with rfl | q2
                  · rw [hoi] at q1
                    cases q1
                    rw [hd] at q3
                    exact absurd (Option.some.inj q3) e
                  · exact ⟨j, q, q0, q1, q2, q3⟩
                · rintro ⟨j, q, q0, q1, q2, q3⟩
                  exact ⟨j, q, q0, q1, (hset j).2 (.inr q2), q3⟩
              simp only [this]
          · -- one less is not listed
            have hlt : ((List.range ops.size).filter fun j => !(listed.setIfInBounds i true).getD j true).length < ((List.range ops.size).filter fun j => !listed.getD j true).length := by
              refine filter_lt (i := i) hi0 (by simp [hunl]) ?_ fun j hj hb => ?_
              · simp [Array.getD_eq_getD_getElem?, show i < listed.size by omega]
              · simp only [Array.getD_eq_getD_getElem?, Array.getElem?_setIfInBounds] at hb ⊢
                by_cases e : i = j
                · subst e
                  have : i < listed.size := by omega
                  simp [this] at hb
                · rw [if_neg e] at hb; exact hb
            omega
        unfold wpOp
        rw [hoi]
        simp only
        -- the guard
        have hwant : ∀ b, wantedS ops o sti = some b → Region.wanted o (yielded ops a'.tmps) = b := fun b hb => by
          unfold wantedS at hb
          split at hb
          · rename_i hgd
            cases hb
            simp [Region.wanted, hgd]
          · rename_i j want hgd
            split at hb
            · cases hb
            · rename_i s hs
              have hsl : s ∈ o.looksAt ops := by
                unfold Oper.looksAt
                refine List.mem_append_right _ ?_
                rw [hgd]
                have hs : (ops[j]?).bind (·.dst) = some s := hs
                simp [hs]
              have hgs := hsee s hsl
              have hv := h1.tmps s
              split at hb
              · rename_i g hgv
                cases hb
                rw [hgs, hgv] at hv
                have hy := yielded_of hs g (rdv_bool hv)
                simp only [Region.wanted, hgd, hy]
                cases g <;> cases want <;> rfl
              · rename_i hgv
                cases hb
                rw [hgs, hgv] at hv
                have hy := yielded_undef hs hv
                simp [Region.wanted, hgd, hy]
              · cases hb
        have hko := hk o (by rw [hod]; simp)
        have hda : d < a'.tmps.size := by rw [h1.size]; exact hdn'
        have hput : ∀ (v : Value) (s : Nat), (a'.put o.dst v).tmps.getD s undef = if d = s then v else a'.tmps.getD s undef := fun v s => by
          rw [hd]
          exact setIf_getD hda
        -- the same, whatever was carried out
        have carry : ∀ {v : Value} {w1 : World} {F1 : Nat → Prop}, (∀ L, L < βs.length → ObRep w1 F1 βs (bv βs L) (getOb st.obs L)) → TVRep P J w1 F1 (fun b => b < w1.heap.size ∧ ¬ Own βs st.obs b) βs tv v →
            (∀ b, F b → F1 b) → (∀ b, F1 b → F b ∨ (w.heap.size ≤ b ∧ b < w1.heap.size ∧ ¬ Own βs st.obs b)) → w.heap.size ≤ w1.heap.size → (∀ b, b < w.heap.size → ¬ Own βs st.obs b → w1.heap[b]? = w.heap[b]?) → w1.os = w.os → w1.tape = w.tape → w1.output = w.output →
            (∀ t, isAlloc o = some t → Made Γ B βs st.obs st.n (a'.put o.dst v) w1 F1 o ∧ ∀ b, v = .pointer (some ⟨b, 0, none⟩) → w.heap.size ≤ b) →
            AI P J Γ B βs st ops m a ws (listed.setIfInBounds i true) (stL.put o.dst tv) (a'.put o.dst v) w1 F1 := fun {v w1 F1} c1 c2 c3 c4 c5 c6 c7 c8 c9 c10 => by
          have hmade : ∀ (j : Nat) (q : Oper), j < m → ops[j]? = some q → listed.getD j true = true → Made Γ B βs st.obs st.n (a'.put o.dst v) w1 F1 q ∧ ∀ d b, (isAlloc q).isSome = true → q.dst = some d → (a'.put o.dst v).tmps.getD d undef = .pointer (some ⟨b, 0, none⟩) → ws.heap.size ≤ b ∧ b < w.heap.size := fun j q hjm hq hjl => by
            obtain ⟨m1, m2⟩ := h1.made j q hjm hq hjl
            have hne : i ≠ j := fun e => by subst e; rw [hunl] at hjl; cases hjl
            have hdj : ∀ d', q.dst = some d' → d ≠ d' := fun d' hd' e => huniq j q (hops j q hjm hq) hne (by rw [hd', e])
            refine ⟨fun t ht => ?_, fun d' b' hal hd' hv => ?_⟩
            · obtain ⟨d', b', k', n1, n2, n3, n4, n5, n6, n7, n8, n9⟩ := m1 t ht
              refine ⟨d', b', k', n1, n2, n3, ?_, ?_, n6, Nat.lt_of_lt_of_le n7 c5, fun q => ?_, n9⟩
              · rw [hput, if_neg (hdj d' n1)]; exact n4
              · rw [c6 b' n7 n9]; exact n5
              · rcases c4 b' q with z | z
                · exact n8 z
                · omega
            · rw [hput, if_neg (hdj d' hd')] at hv
              refine ⟨m2 d' b' hal hd' hv, ?_⟩
              cases hia : isAlloc q with
              | none => rw [hia] at hal; cases hal
              | some t =>
                obtain ⟨d2, b2, k', n1, n2, n3, n4, n5, n6, n7, n8, n9⟩ := m1 t hia
                obtain rfl : d2 = d' := Option.some.inj (n1.symm.trans hd')
                rw [hv] at n4
                simp only [Value.pointer.injEq, Option.some.injEq, Addr.mk.injEq, and_true] at n4
                rw [n4]; exact n7
          have hnew : ∀ t, isAlloc o = some t → ∀ b, v = .pointer (some ⟨b, 0, none⟩) → w.heap.size ≤ b := fun t ht => (c10 t ht).2
          refine ⟨c1, fun s => ?_, fun b hb => ?_, fun b hb => c3 b (h1.big b hb), ?_, ?_, fun s hs => ?_, fun b hb ho => ?_, Nat.le_trans h1.grow c5, c7.trans h1.os, c8.trans h1.tape, c9.trans h1.output, fun j q hjm hq hjl => ?_, fun j j' q q' hjm hjm' hjj hq hq' hjl hjl' => ?_⟩
          · rw [hd, get_put, ← hd, hput v s]
            by_cases e : d = s
            · rw [if_pos ⟨by rw [hn1]; exact hdn', e⟩, if_pos e]; exact c2
            · rw [if_neg (fun q => e q.2), if_neg e]
              refine TVRep.monoS (S := fun b => b < w.heap.size ∧ ¬ Own βs st.obs b) (fun b hb => ⟨Nat.lt_of_lt_of_le hb.1 c5, hb.2⟩) ?_
              exact TVRep.mono (fun b hb => c6 b hb.1 hb.2) c5 (fun b hb => ⟨c3 b hb, c6 b (h1.fin b hb).2.1 (h1.fin b hb).2.2⟩) (Nat.le_refl _) (fun _ _ => rfl) (h1.tmps s)
          · rcases c4 b hb with q | ⟨q1, q2, q3⟩
            · obtain ⟨p1, p2, p3⟩ := h1.fin b q
              exact ⟨p1, Nat.lt_of_lt_of_le p2 c5, p3⟩
            · exact ⟨.inr (.inl (Nat.le_trans (Nat.le_trans hle0 h1.grow) q1)), q2, q3⟩
          · rw [hd]; show (a'.tmps.setIfInBounds d v).size = st.n; rw [Array.size_setIfInBounds]; exact h1.size
          · rw [hd]; exact h1.defers
          · rw [hput, if_neg (fun e => hs i o him hoi ((hsetT i).2 (.inl rfl)) (by rw [hd, e]))]
            exact h1.keep s fun j q hjm hq hjl => hs j q hjm hq ((hsetT j).2 (.inr hjl))
          · rw [c6 b (Nat.lt_of_lt_of_le hb h1.grow) ho]; exact h1.heap b hb ho
          · rcases (hsetT j).1 hjl with e | hjl'
            · subst e
              obtain rfl : o = q := Option.some.inj (hoi.symm.trans hq)
              refine ⟨fun t ht => (c10 t ht).1 t ht, fun d' b' hal hd' hv => ?_⟩
              obtain rfl : d = d' := Option.some.inj (hd.symm.trans hd')
              rw [hput, if_pos rfl] at hv
              cases hia : isAlloc o with
              | none => rw [hia] at hal; cases hal
              | some t => exact Nat.le_trans h1.grow (hnew t hia b' hv)
            · obtain ⟨p1, p2⟩ := hmade j q hjm hq hjl'
              exact ⟨p1, fun d' b' x1 x2 x3 => (p2 d' b' x1 x2 x3).1⟩
          · intro t1 t2 d1 d2 b x1 x2 x3 x4 x5 x6
            have hcase : ∀ (j : Nat) (q : Oper), j < m → ops[j]? = some q → (listed.setIfInBounds i true).getD j true = true → ∀ t d', isAlloc q = some t → q.dst = some d' → (a'.put o.dst v).tmps.getD d' undef = .pointer (some ⟨b, 0, none⟩) → (j = i ∧ w.heap.size ≤ b) ∨ (listed.getD j true = true ∧ b < w.heap.size ∧ a'.tmps.getD d' undef = .pointer (some ⟨b, 0, none⟩)) := fun j q hjm hq hjl t d' y1 y2 y3 => by
              rcases (hsetT j).1 hjl with e | hjl'
              · subst e
                obtain rfl : o = q := Option.some.inj (hoi.symm.trans hq)
                obtain rfl : d = d' := Option.some.inj (hd.symm.trans y2)
                rw [hput, if_pos rfl] at y3
                exact .inl ⟨rfl, hnew t y1 b y3⟩
              · have hne : i ≠ j := fun e => by subst e; rw [hunl] at hjl'; cases hjl'
                have hdne : d ≠ d' := fun e => huniq j q (hops j q hjm hq) hne (by rw [y2, e])
                refine .inr ⟨hjl', ((hmade j q hjm hq hjl').2 d' b (by rw [y1]; rfl) y2 y3).2, ?_⟩
                rw [hput, if_neg hdne] at y3
                exact y3
            rcases hcase j q hjm hq hjl t1 d1 x1 x3 x5 with ⟨e1, g1⟩ | ⟨e1, g1, g2⟩ <;> rcases hcase j' q' hjm' hq' hjl' t2 d2 x2 x4 x6 with ⟨e2, g3⟩ | ⟨e2, g3, g4⟩
            · omega
            · omega
            · omega
            · exact h1.apart j j' q q' hjm hjm' hjj hq hq' e1 e2 t1 t2 d1 d2 b x1 x2 x3 x4 g2 g4
        rcases f4 with ⟨g1, obs', g2, g3⟩ | ⟨g1, rfl⟩
        · rw [if_pos (hwant true g1)]
          refine .inl ?_
          cases hal : isAlloc o with
          | some t =>
            obtain ⟨rfl, _, kd, hkd⟩ := evalF_alloc hal g2
            have hop : o.op = .alloc t := by
              unfold isAlloc at hal
              split at hal
              · rename_i t' e
                cases hal
                exact e
              · cases hal
            obtain ⟨inf, i1, i2, z, i3, i4⟩ := (hΓ.kind hkd).info
            have hz := valCells_cells i4 (Kd.zero_one kd)
            have hzz : z.cells = kd.zeroCells.toArray := by rw [← hz]
            have hrun1 : (execOp a'.eval o).run P w = .ok (.value (.pointer (some ⟨w.heap.size, 0, none⟩))) (w.alloc (.cells kd.zeroCells.toArray t)) := by
              unfold execOp
              simp [hop, Instr.alloc, zeroValue, typeInfo, i1, i3, newVar, newRow, hzz]
            obtain ⟨a1, a2, a3⟩ := alloc_facts w (.cells kd.zeroCells.toArray t)
            have hFs : ¬ F w.heap.size := fun q => by have := (h1.fin _ q).2.1; omega
            have hOs : ¬ Own βs st.obs w.heap.size := fun q => by have := (hownlt _ q).2; have := h1.grow; omega
            have hnx := carry (v := .pointer (some ⟨w.heap.size, 0, none⟩)) (w1 := w.alloc (.cells kd.zeroCells.toArray t)) (F1 := F)
              (fun L hL => ObRep.mono (fun b hb => ⟨hb, a3 b (h1.fin b hb).2.1⟩) (Nat.le_refl _) (fun _ _ => rfl) (fun b hlive hbo => a3 b (by
                have := (hownlt b ⟨L, hL, hlive, hbo⟩).2
                have := h1.grow
                omega)) (h1.obs L hL)) trivial (fun _ q => q) (fun _ q => .inl q) (by rw [a1]; omega) (fun b hb _ => a3 b hb) rfl rfl rfl
              (fun t' ht' => by
                obtain rfl : t = t' := Option.some.inj (hal.symm.trans ht')
                refine ⟨fun t2 ht2 => ?_, fun b hb => ?_⟩
                · obtain rfl : t = t2 := Option.some.inj (hal.symm.trans ht2)
                  exact ⟨d, w.heap.size, kd, hd, hdn', hkd, by rw [hput, if_pos rfl], a2, Nat.le_trans hle0 h1.grow, by rw [a1]; omega, hFs, hOs⟩
                · simp only [Value.pointer.injEq, Option.some.injEq, Addr.mk.injEq, and_true] at hb
                  omega)
            unfold Oper.wp
            rw [hrun1]
            exact next hnx
          | none =>
            have hev : (evalOp Γ (fun _ => false) k o stL.ev stL.obs).To (tv, obs') := by
              rw [evalOp_congr hoper, ho1, ← f3]; exact evalF_plain hal g2
            -- the same, as if all began here
            obtain ⟨B2, hB2⟩ : ∃ B2 : Base, B2 = ⟨w, fun b => Own βs st.obs b, F⟩ := ⟨_, rfl⟩
            have hfz2 : ∀ b, Fz B2 βs st.obs w b ↔ F b := fun b => by
              rw [hB2]
              constructor
              · rintro (q | ⟨q1, q2, q3⟩)
                · exact q
                · rcases q1 with q1 | q1
                  · exact absurd q2 (Nat.not_lt.2 q1)
                  · exact absurd q1 q3
              · exact .inl
            have hIw : J.I w := by
              refine J.lasts B.w0 w (fun b hb => ?_) hB.inv
              have hbn : b < B.n0 := Nat.lt_of_lt_of_le hb hB.gz
              have hG := hB.gzG b hb
              have hno : ¬ Own βs st.obs b := fun ho => by
                rcases (hownlt b ho).1 with z | z
                · omega
                · exact hG z
              rw [h1.heap b (Nat.lt_of_lt_of_le hbn hle0) hno, hws]
              exact h.ext.block b hbn hG
            have hok2 : B2.Ok J := by
              rw [hB2]
              refine ⟨fun b hb => ⟨(h1.fin b hb).2.1, (h1.fin b hb).2.2⟩, hIw, Nat.le_trans hB.gz (Nat.le_trans hle0 h1.grow), fun b hb ho => ?_⟩
              have hbn : b < B.n0 := Nat.lt_of_lt_of_le hb hB.gz
              rcases (hownlt b ho).1 with z | z
              · omega
              · exact hB.gzG b hb z
            have hR2 : Rep' P J B2 βs st.obs w := by
              refine ⟨by rw [hB2]; exact Nat.le_refl _, hok2.f0, fun b hb => ?_, h.inj, ⟨h.len, fun L hL => ObRep.mono (fun b hb => ⟨(hfz2 b).2 hb, rfl⟩) (Nat.le_refl _) (fun _ _ => rfl) (fun _ _ _ => rfl) (h1.obs L hL)⟩⟩
              rw [hB2]
              exact ⟨.inr hb, Nat.lt_of_lt_of_le (hownlt b hb).2 h1.grow⟩
            have hS2 : B2.S = fun b => b < w.heap.size ∧ ¬ Own βs st.obs b := by rw [hB2]; rfl
            have hρ2 : ∀ x, TR P J B2 βs stL.obs w (stL.ev x) (a'.eval x) := fun x => by
              rw [ho1]
              cases x with
              | tmp s =>
                have := h1.tmps s
                show TVRep P J w (Fz B2 βs st.obs w) B2.S βs (stL.get s) (a'.tmps.getD s undef)
                rw [hS2]
                exact TVRep.mono (fun _ _ => rfl) (Nat.le_refl _) (fun b hb => ⟨(hfz2 b).2 hb, rfl⟩) (Nat.le_refl _) (fun _ _ => rfl) this
              | const v => exact constTV_rep v
              | func f => exact ⟨fun L hL => (by cases hL), rfl⟩
              | global g => trivial
            have hop := evalOp_ok hΓ hok2 (by rw [ho1]; exact hR2) hIw hρ2 hev
            have fin : ∀ {v : Value} {w' : World}, Behind P J B2 βs stL.obs (fun _ => false) w tv obs' v w' → wpAny P .any ops Q fuel (listed.setIfInBounds i true) (a'.put o.dst v) w' := by
              rintro v w' ⟨βs', hs, ht⟩
              rw [ho1] at hs
              have hob : obs' = st.obs := obs_same (fun L hL => hs.lock L (by rw [h.len]; exact hL) rfl) (by rw [g3, f3])
              rw [hob] at hs ht
              have hbs : βs' = βs := by
                have hlen : βs'.length = βs.length := by rw [hs.len, h.len]
                refine List.ext_getElem hlen fun L h2 h3 => ?_
                have := hs.bext L h3
                unfold bv at this
                simpa [h2, h3] using this
              rw [hbs] at hs ht
              have hF1 : ∀ b, Fz B2 βs st.obs w' b → F b ∨ (w.heap.size ≤ b ∧ b < w'.heap.size ∧ ¬ Own βs st.obs b) := fun b hb => by
                rw [hB2] at hb
                rcases hb with q | ⟨q1, q2, q3⟩
                · exact .inl q
                · rcases q1 with q1 | q1
                  · exact .inr ⟨q1, q2, q3⟩
                  · exact absurd q1 q3
              refine next (carry (F1 := Fz B2 βs st.obs w') hs.rep ?_ (fun b hb => by rw [hB2]; exact .inl hb) hF1 hs.size hs.block hs.os hs.tape hs.output (fun t ht => by rw [hal] at ht; cases ht))
              exact TVRep.free (evalF_noS g2) ht
            unfold Oper.wp
            rcases hop with ⟨v, w', hr, hb⟩ | ⟨w', hr, hb⟩ | ⟨f, args, hr, hc⟩
            · rw [hr]; exact fin hb
            · rw [hr]; exact fin hb
            · rw [hr]
              exact hc.mono fun e w' ⟨v, q1, q2⟩ => by subst q1; exact fin q2
        · rw [if_neg (by rw [hwant false g1]; simp)]
          have hgd : o.guard ≠ none := fun e => by
            unfold wantedS at g1
            rw [e] at g1
            simp at g1
          refine next (carry (F1 := F) h1.obs rfl (fun _ q => q) (fun _ q => .inl q) (Nat.le_refl _) (fun _ _ _ => rfl) rfl rfl rfl fun t ht => ?_)
          exact absurd (hbindOK i o t him hoi ht) hgd
  have hA0 : AI P J Γ B βs st ops m a ws (Array.replicate ops.size false) st a ws (Fz B βs st.obs ws) := by
    have hid : ∀ {F S : Nat → Prop} {tv : TV} {v : Value}, TVRep P J w F S βs tv v → TVRep P J ws F S βs tv v := fun {F S tv v} q => TVRep.mono (w := w) (F := F) (fun _ _ => by rw [hws]) (by rw [hws]; exact Nat.le_refl _) (fun _ q => ⟨q, by rw [hws]⟩) (Nat.le_refl _) (fun _ _ => rfl) q
    have hFe : Fz B βs st.obs ws = Fz B βs st.obs w := by rw [hws]; rfl
    have none_listed : ∀ (j : Nat) (q : Oper), ops[j]? = some q → (Array.replicate ops.size false).getD j true = true → False := fun j q hq hjl => by
      obtain ⟨hlt, _⟩ := Array.getElem?_eq_some_iff.1 hq
      simp [hlt] at hjl
    refine ⟨fun L hL => ?_, fun s => ?_, fun b hb => ?_, fun _ q => q, h.size, h.defers, fun _ _ => rfl, fun _ _ _ => rfl, Nat.le_refl _, rfl, rfl, rfl, fun j q _ hq hjl => (none_listed j q hq hjl).elim, fun j j' q q' _ _ _ hq _ hjl _ => (none_listed j q hq hjl).elim⟩
    · rw [hFe]
      exact ObRep.mono (w := w) (F := Fz B βs st.obs w) (fun _ q => ⟨q, by rw [hws]⟩) (Nat.le_refl _) (fun _ _ => rfl) (fun _ _ _ => by rw [hws]) (h.obs L hL)
    · rw [hFe]
      refine TVRep.monoS (S := B.S) (fun b hb => ?_) (hid (h.tmps s))
      refine ⟨Nat.lt_of_lt_of_le hb.1 hle0, fun ho => ?_⟩
      rcases (hownlt b ho).1 with z | z
      · have := hb.1; omega
      · exact hb.2 z
    · refine ⟨?_, hfzlt b hb⟩
      rcases hb with q | ⟨q, _⟩
      · exact .inl q
      · exact .inr q
  rw [← hws]
  refine key ops.size (Array.replicate ops.size false) st a _ _ hA0 hl rfl rfl (fun t => ?_) (by simp) (fun j _ hj => by simp [hj]) (fun j o hj hlj => ?_) ?_
  rotate_left
  · exfalso
    have hi : j < ops.size := by
      rcases Nat.lt_or_ge j ops.size with q | q
      · exact q
      · rw [Array.getElem?_eq_none q] at hj; cases hj
    simp [hi] at hlj
  rotate_left
  · rw [if_neg]
    rintro ⟨i, o, _, q1, q2, _⟩
    have hi : i < ops.size := by
      rcases Nat.lt_or_ge i ops.size with q | q
      · exact q
      · rw [Array.getElem?_eq_none q] at q1; cases q1
    simp [hi] at q2
  · exact Nat.le_trans (List.length_filter_le _ _) (by simp)

end Go.Proofs.YtocgdpnealaoeaaDoor.Ev
