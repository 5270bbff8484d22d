/- The small evaluator is right: regions in order (this session's own). No condition. -/
import Derived.Test.YtocgdpnealaoeaaDoorEv4
namespace Go.Proofs.YtocgdpnealaoeaaDoor.Ev
open Go.RowKit
set_option linter.unusedVariables false
set_option linter.unusedSimpArgs false

variable {P : Program} {J : Inv} {Γ : Ctx} {B : Base} {C : LBase} {βs : List Value} {st : St} {a : Act} {w w' : World}

theorem Rep.inv (hB : B.Ok J) (h : Rep P J B C βs st a w) : J.I w := by
  refine J.lasts B.w0 w (fun b hb => h.ext.block b ?_ (hB.gzG b hb)) hB.inv
  have := hB.gz
  unfold Base.n0 at *
  omega
theorem Rep.congr {st' : St} (h : Rep P J B C βs st a w) (h1 : ∀ s, st'.get s = st.get s) (h2 : st'.obs = st.obs) (h3 : st'.n = st.n) (h4 : st'.lk = st.lk) (h5 : st'.op = st.op) : Rep P J B C βs st' a w := by
  have hw : st'.wr = st.wr := by unfold St.wr; rw [h4, h5]
  exact ⟨h.ext, h2 ▸ h.own, h2 ▸ h.inj, h2 ▸ h.len, h2 ▸ h.obs, fun s => by rw [h1, h2]; exact h.tmps s, h3 ▸ h.size, h.defers, h.keep, fun b hb => by rw [h2]; exact h.mono b hb, h.msize, h.blen, h.bext, fun L hL hwL => by rw [h2]; exact h.lock L hL (by rw [← hw]; exact hwL)⟩
theorem get_put {d : Nat} {tv : TV} (s : Nat) : (st.put (some d) tv).get s = if d < st.n ∧ d = s then tv else st.get s := by
  unfold St.get St.put
  by_cases hd : d < st.n
  · have : Nat.blt d st.n = true := by simpa [Nat.blt_eq] using hd
    simp only [this, cond]
    rw [tget_cons]
    by_cases e : d = s
    · rw [if_pos e, if_pos ⟨hd, e⟩]
    · rw [if_neg e, if_neg (fun q => e q.2)]
  · have : Nat.blt d st.n = false := by simpa [← Bool.not_eq_true, Nat.blt_eq] using hd
    simp only [this, cond]
    rw [if_neg (fun q => hd q.1)]
/-- a slot told anew -/
theorem Rep.retag (h : Rep P J B C βs st a w) {s : Nat} {tv : TV} (ht : TR P J B βs st.obs w tv (a.tmps.getD s undef)) : Rep P J B C βs (st.put (some s) tv) a w := by
  refine ⟨h.ext, h.own, h.inj, h.len, h.obs, fun i => ?_, h.size, h.defers, h.keep, h.mono, h.msize, h.blen, h.bext, h.lock⟩
  rw [get_put]
  split
  · rename_i q
    rw [← q.2]; exact ht
  · exact h.tmps i

theorem yielded_of {ops : Array Oper} {j s : Nat} (hs : dstOf ops j = some s) (b : Bool) (hv : a.tmps.getD s undef = .bool b) : yielded ops a.tmps j = some b := by
  unfold yielded
  have hs : (ops[j]?).bind (·.dst) = some s := hs
  rw [hs]
  simp only [Option.bind_some]
  have : a.tmps[s]? = some (.bool b) := by
    rcases Nat.lt_or_ge s a.tmps.size with q | q
    · rw [Array.getElem?_eq_getElem q]
      have : a.tmps[s] = .bool b := by simpa [q] using hv
      rw [this]
    · simp [Nat.not_lt.2 q] at hv
      have hv : undef = Value.bool b := hv
      simp [undef] at hv
  rw [this]
theorem yielded_undef {ops : Array Oper} {j s : Nat} (hs : dstOf ops j = some s) (hv : a.tmps.getD s undef = undef) : yielded ops a.tmps j = none := by
  unfold yielded
  have hs : (ops[j]?).bind (·.dst) = some s := hs
  rw [hs]
  simp only [Option.bind_some]
  rcases Nat.lt_or_ge s a.tmps.size with q | q
  · rw [Array.getElem?_eq_getElem q]
    have : a.tmps[s] = undef := by simpa [q] using hv
    rw [this]; rfl
  · rw [Array.getElem?_eq_none q]

/-- an operation's place in a run -/
theorem op_wp (hΓ : CtxOK P J Γ) (hB : B.Ok J) (h : Rep P J B C βs st a w) {wr : Nat → Bool} (hwr : ∀ L, L < C.βb.length → st.wr L = false → wr L = false) (hwr2 : ∀ L, wr L = false → True) {k : Nat} {o : Oper} {tv : TV} {obs' : List Ob}
    (he : (evalOp Γ st.wr k o st.ev st.obs).To (tv, obs')) (hk : ∀ d, o.dst = some d → ¬ C.kept d) {K : Act → World → Prop} {Q : Exit → Act → World → Prop}
    (hK : ∀ βs' v w', Rep P J B C βs' ((st.with obs').put o.dst tv) (a.put o.dst v) w' → K (a.put o.dst v) w') : o.wp P a w K Q := by
  have hI := h.inv hB
  have hop := evalOp_ok hΓ hB (h.toRep' hB) hI h.ev he
  have fin : ∀ {v : Value} {w' : World}, Behind P J B βs st.obs st.wr w tv obs' v w' → K (a.put o.dst v) w' := by
    rintro v w' ⟨βs', hs, ht⟩
    exact hK βs' v w' ((h.step hB hs).put hk ht)
  unfold Oper.wp
  rcases hop with ⟨v, w', hr, hb⟩ | ⟨w', hr, hb⟩ | ⟨f, args, hr, hc⟩
  · rw [hr]; exact fin hb
  · rw [hr]; exact fin hb
  · rw [hr]
    exact hc.mono fun e w' ⟨v, h1, h2⟩ => by subst h1; exact fin h2

theorem put_skipped (h : Rep P J B C βs st a w) {d : Option Nat} (hk : ∀ s, d = some s → ¬ C.kept s) : Rep P J B C βs (st.put d .skipped) (a.put d undef) w := h.put hk rfl

def SameLocks (st st' : St) : Prop := st'.lk = st.lk ∧ st'.op = st.op ∧ st'.n = st.n
theorem SameLocks.put {d : Option Nat} {tv : TV} {st0 : St} (h : SameLocks st0 st) : SameLocks st0 (st.put d tv) := by
  cases d <;> exact h
theorem SameLocks.with_ {obs : List Ob} {st0 : St} (h : SameLocks st0 st) : SameLocks st0 (st.with obs) := h

/-- a region whose operations come in their order -/
theorem execOps_ok {R : Type} {ops : Array Oper} (hΓ : CtxOK P J Γ) (hB : B.Ok J) {k : Nat} {K : St → Option R} {r : R} {Q : Exit → Act → World → Prop} {st0 : St}
    (hK : ∀ βs st' a' w', Rep P J B C βs st' a' w' → SameLocks st0 st' → K st' = some r → Q .normal a' w') :
    ∀ (l : List Oper) (βs : List Value) (st : St) (a : Act) (w : World), (∀ o ∈ l, ∀ d, o.dst = some d → ¬ C.kept d) → Rep P J B C βs st a w → SameLocks st0 st → execOps Γ k ops l K st = some r → wpList P ops Q l a w
  | [], βs, st, a, w, _, h, hl, he => hK βs st a w h hl he
  | o :: l, βs, st, a, w, hk, h, hl, he => by
    have ih := execOps_ok (ops := ops) (k := k) hΓ hB hK l
    have hko := hk o (List.mem_cons_self ..)
    have hkl : ∀ o ∈ l, ∀ d, o.dst = some d → ¬ C.kept d := fun o ho => hk o (List.mem_cons_of_mem _ ho)
    -- the operation is carried out, in a state that tells of the same run
    have go : ∀ {st1 : St}, Rep P J B C βs st1 a w → SameLocks st0 st1 → Region.wanted o (yielded ops a.tmps) = true →
        Res.runS (evalOp Γ st1.wr k o st1.ev st1.obs) (fun tv obs => execOps Γ k ops l K ((st1.with obs).put o.dst tv)) = some r → wpList P ops Q (o :: l) a w := by
      intro st1 h1 hl1 hw he
      rw [Res.runS_eq] at he
      obtain ⟨⟨tv, obs'⟩, ht, hr⟩ := Res.run_some he
      unfold wpList
      rw [if_pos hw]
      exact .inl (op_wp hΓ hB h1 (wr := st1.wr) (fun _ _ q => q) (fun _ _ => trivial) ht hko fun βs' v w' h2 => ih βs' _ _ w' hkl h2 hl1.with_.put hr)
    have skip : ∀ {st1 : St}, Rep P J B C βs st1 a w → SameLocks st0 st1 → Region.wanted o (yielded ops a.tmps) = false →
        execOps Γ k ops l K (st1.put o.dst .skipped) = some r → wpList P ops Q (o :: l) a w := by
      intro st1 h1 hl1 hw he
      unfold wpList
      rw [if_neg (by rw [hw]; simp)]
      exact ih βs _ _ w hkl (put_skipped h1 hko) hl1.put he
    rw [execOps] at he
    split at he
    · rename_i hg
      exact go h hl (by simp [Region.wanted, hg]) he
    · rename_i j want hg
      split at he
      · cases he
      · rename_i s hs
        split at he
        · rename_i g hgv
          have hv := h.tmps s
          rw [hgv] at hv
          have hval := rdv_bool hv
          have hy := yielded_of hs g hval
          have hwant : Region.wanted o (yielded ops a.tmps) = (g == want) := by
            simp only [Region.wanted, hg, hy]
            cases g <;> cases want <;> rfl
          have hret : ∀ b, g = b → Rep P J B C βs (st.put (some s) (.val .bool b)) a w := by
            rintro b rfl
            exact h.retag hv
          cases g with
          | true =>
            cases want with
            | true => exact go (hret true rfl) hl.put hwant he
            | false => exact skip (hret true rfl) hl.put hwant he
          | false =>
            cases want with
            | true => exact skip (hret false rfl) hl.put hwant he
            | false => exact go (hret false rfl) hl.put hwant he
        · rename_i hgv
          have hv := h.tmps s
          rw [hgv] at hv
          have hy := yielded_undef hs hv
          exact skip h hl (by simp [Region.wanted, hg, hy]) he
        · cases he

end Go.Proofs.YtocgdpnealaoeaaDoor.Ev
