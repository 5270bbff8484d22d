/- The small evaluator is right: the state at a loop's head (this session's own). No condition. -/
import Derived.Test.YtocgdpnealaoeaaDoorEvJ
namespace Go.Proofs.YtocgdpnealaoeaaDoor.Ev
open Go.RowKit
set_option linter.unusedVariables false
set_option linter.unusedSimpArgs false

variable {P : Program} {J : Inv} {Γ : Ctx} {B : Base} {C : LBase} {βs : List Value} {st : St} {a : Act} {w w' : World} {obs obs1 obs2 : List Ob} {wr : Nat → Bool}

theorem TVs.append {l1 l2 : List TV} {v1 v2 : List Value} (h1 : TVs P J B βs obs w l1 v1) (h2 : TVs P J B βs obs w l2 v2) : TVs P J B βs obs w (l1 ++ l2) (v1 ++ v2) := by
  induction l1 generalizing v1 with
  | nil =>
    have h1 : v1 = [] := h1
    subst h1; exact h2
  | cons t l ih =>
    obtain ⟨v, r, rfl, a, b⟩ := h1
    exact ⟨v, r ++ v2, rfl, a, ih b⟩

/-! ### what is packed -/
theorem packOne_rep (h : Rep' P J B βs obs w) {s : SV} {tv : TV} {v : Value} {x : s.T} (ht : TR P J B βs obs w tv v) (hx : packOne s tv obs = some x) : PackRep w (Fz B βs obs w) s x v := by
  cases s with
  | val k =>
    simp only [packOne] at hx
    split at hx
    · exact RdV.cast ht hx
    · rw [show v = _ from ht]; exact RdV.cast (nil_reads _) hx
    · cases hx
  | arr e =>
    simp only [packOne] at hx
    split at hx
    · cases hx; exact .inl ⟨ht, rfl⟩
    · rename_i L
      split at hx
      · rename_i e' l ho
        obtain ⟨rfl, hll⟩ := cast_slice hx
        obtain rfl : l = x := hll
        obtain ⟨hL, rfl⟩ := ht
        have hr := h.obs.rep L hL
        rw [ho] at hr
        exact hr
      · cases hx
    · cases hx
  | map kk kv =>
    simp only [packOne] at hx
    split at hx
    · rename_i L
      split at hx
      · rename_i kk' kv' m ho
        obtain ⟨e1, e2⟩ := Kd.cast_some hx
        cases e1
        obtain rfl : m = x := e2
        obtain ⟨hL, rfl⟩ := ht
        have hr := h.obs.rep L hL
        rw [ho] at hr
        exact hr
      · cases hx
    · cases hx
theorem pack_rep (h : Rep' P J B βs obs w) : ∀ {ss : List SV} {tvs : List TV} {vs : List Value} {x : XT ss}, TVs P J B βs obs w tvs vs → pack ss tvs obs = some x → PacksRep w (Fz B βs obs w) ss x vs
  | [], [], vs, x, ht, hx => ht
  | [s], [tv], vs, x, ht, hx => by
    obtain ⟨v, r, rfl, h1, h2⟩ := ht
    have h2 : r = [] := h2
    subst h2
    exact ⟨v, rfl, packOne_rep h h1 hx⟩
  | s :: t :: r, tv :: tvs, vs, x, ht, hx => by
    obtain ⟨v, q, rfl, h1, h2⟩ := ht
    simp only [pack] at hx
    split at hx
    · rename_i y ys hy hys
      cases hx
      exact ⟨v, q, rfl, packOne_rep h h1 hy, pack_rep h h2 hys⟩
    · cases hx
  | [], _ :: _, _, _, _, hx => by simp [pack] at hx
  | [_], [], _, _, _, hx => by simp [pack] at hx
  | _ :: _ :: _, [], _, _, _, hx => by simp [pack] at hx
  | [_], _ :: _ :: _, _, _, _, hx => by simp [pack] at hx

def newOb : (s : SV) → s.T → List Ob
  | .val _, _ => []
  | .arr e, l => [.arr e l]
  | .map kk kv, m => [.map kk kv m]
def newObs : (ss : List SV) → XT ss → List Ob
  | [], _ => []
  | [s], x => newOb s x
  | s :: t :: r, x => newOb s x.1 ++ newObs (t :: r) x.2
theorem unpackOne_obs (s : SV) (x : s.T) (obs : List Ob) : (unpackOne s x obs).2 = obs ++ newOb s x := by
  cases s <;> simp [unpackOne, newOb]
theorem unpack_obs : ∀ (ss : List SV) (x : XT ss) (obs : List Ob), (unpack ss x obs).2 = obs ++ newObs ss x
  | [], _, obs => by simp [unpack, newObs]
  | [s], x, obs => unpackOne_obs s x obs
  | s :: t :: r, x, obs => by
    have h1 := unpackOne_obs s x.1 obs
    have h2 := unpack_obs (t :: r) x.2 (unpackOne s x.1 obs).2
    simp only [unpack, newObs]
    rw [h2, h1, List.append_assoc]

theorem newObs_rep {F : Nat → Prop} : ∀ {ss : List SV} {x : XT ss} {vs : List Value}, PacksRep w F ss x vs → (newObs ss x).length = (newVals ss vs).length ∧
    ∀ (i : Nat) (h1 : i < (newObs ss x).length) (h2 : i < (newVals ss vs).length), (newObs ss x)[i].live = true ∧ ObRep w F [] (newVals ss vs)[i] (newObs ss x)[i]
  | [], x, vs, h => ⟨by rw [show vs = _ from h]; rfl, fun i h1 => by cases h1⟩
  | [.val k], x, _, ⟨v, rfl, h⟩ => ⟨rfl, fun i h1 => by cases h1⟩
  | [.arr e], x, _, ⟨v, rfl, h⟩ => ⟨rfl, fun i h1 h2 => by
    have : i = 0 := by simp [newVals] at h2; omega
    subst this; exact ⟨rfl, h⟩⟩
  | [.map kk kv], x, _, ⟨v, rfl, h⟩ => ⟨rfl, fun i h1 h2 => by
    have : i = 0 := by simp [newVals] at h2; omega
    subst this; exact ⟨rfl, h⟩⟩
  | .val k :: t :: r, x, _, ⟨v, q, rfl, h1, h2⟩ => by
    have := newObs_rep h2
    simpa only [newObs, newOb, newVals, List.nil_append] using this
  | .arr e :: t :: r, x, _, ⟨v, q, rfl, h1, h2⟩ => by
    obtain ⟨g1, g2⟩ := newObs_rep h2
    refine ⟨by simp only [newObs, newOb, newVals, List.singleton_append, List.length_cons, g1], fun i q1 q2 => ?_⟩
    cases i with
    | zero => exact ⟨rfl, h1⟩
    | succ i => exact g2 i (by simpa [newObs, newOb] using q1) (by simpa [newVals] using q2)
  | .map kk kv :: t :: r, x, _, ⟨v, q, rfl, h1, h2⟩ => by
    obtain ⟨g1, g2⟩ := newObs_rep h2
    refine ⟨by simp only [newObs, newOb, newVals, List.singleton_append, List.length_cons, g1], fun i q1 q2 => ?_⟩
    cases i with
    | zero => exact ⟨rfl, h1⟩
    | succ i => exact g2 i (by simpa [newObs, newOb] using q1) (by simpa [newVals] using q2)

theorem unpack_rep {F F' : Nat → Prop} (hF : ∀ b, F b → F' b) : ∀ {ss : List SV} {x : XT ss} {vs : List Value} {obs : List Ob} {βs βf : List Value}, PacksRep w F ss x vs → βs.length = obs.length →
    (∀ i, βs.length + i < (βs ++ newVals ss vs).length → bv βf (βs.length + i) = (newVals ss vs).getD i undef) → (βs ++ newVals ss vs).length ≤ βf.length →
    (unpack ss x obs).1.length = vs.length ∧ ∀ (i : Nat) (h1 : i < (unpack ss x obs).1.length) (h2 : i < vs.length), RVRep w F' βf (unpack ss x obs).1[i] vs[i]
  | [], x, vs, obs, βs, βf, h, _, _, _ => ⟨by rw [show vs = _ from h]; rfl, fun i h1 => by cases h1⟩
  | [s], x, _, obs, βs, βf, ⟨v, rfl, h⟩, hl, hb, hle => by
    refine ⟨rfl, fun i h1 h2 => ?_⟩
    have : i = 0 := by simp at h2; omega
    subst this
    cases s with
    | val k => exact RdV.mono (fun b hb => ⟨hF b hb, rfl⟩) h
    | arr e =>
      have := hb 0 (by simp [newVals])
      refine ⟨by simp [newVals] at hle; omega, ?_⟩
      rw [Nat.add_zero, hl] at this
      rw [this]; rfl
    | map kk kv =>
      have := hb 0 (by simp [newVals])
      refine ⟨by simp [newVals] at hle; omega, ?_⟩
      rw [Nat.add_zero, hl] at this
      rw [this]; rfl
  | .val k :: t :: r, x, _, obs, βs, βf, ⟨v, q, rfl, h1, h2⟩, hl, hb, hle => by
    obtain ⟨g1, g2⟩ := unpack_rep hF h2 hl hb hle
    refine ⟨by simp only [unpack, unpackOne, List.length_cons]; omega, fun i q1 q2 => ?_⟩
    cases i with
    | zero => exact RdV.mono (fun b hb => ⟨hF b hb, rfl⟩) h1
    | succ i => exact g2 i (by simpa [unpack, unpackOne] using q1) (by simpa using q2)
  | .arr e :: t :: r, x, _, obs, βs, βf, ⟨v, q, rfl, h1, h2⟩, hl, hb, hle => by
    have hb0 := hb 0 (by simp [newVals])
    obtain ⟨g1, g2⟩ := unpack_rep (obs := obs ++ [.arr e x.1]) (βs := βs ++ [v]) (βf := βf) hF h2 (by simp [hl]) (fun i hi => by
      have := hb (i + 1) (by simp [newVals] at hi ⊢; omega)
      rw [List.length_append, List.length_singleton, Nat.add_assoc, Nat.add_comm 1 i, this]
      simp [newVals]) (by simpa [newVals] using hle)
    refine ⟨by simp only [unpack, unpackOne, List.length_cons]; omega, fun i q1 q2 => ?_⟩
    cases i with
    | zero =>
      refine ⟨by simp [newVals] at hle; omega, ?_⟩
      rw [Nat.add_zero, hl] at hb0
      rw [hb0]; rfl
    | succ i => exact g2 i (by simpa [unpack, unpackOne] using q1) (by simpa using q2)
  | .map kk kv :: t :: r, x, _, obs, βs, βf, ⟨v, q, rfl, h1, h2⟩, hl, hb, hle => by
    have hb0 := hb 0 (by simp [newVals])
    obtain ⟨g1, g2⟩ := unpack_rep (obs := obs ++ [.map kk kv x.1]) (βs := βs ++ [v]) (βf := βf) hF h2 (by simp [hl]) (fun i hi => by
      have := hb (i + 1) (by simp [newVals] at hi ⊢; omega)
      rw [List.length_append, List.length_singleton, Nat.add_assoc, Nat.add_comm 1 i, this]
      simp [newVals]) (by simpa [newVals] using hle)
    refine ⟨by simp only [unpack, unpackOne, List.length_cons]; omega, fun i q1 q2 => ?_⟩
    cases i with
    | zero =>
      refine ⟨by simp [newVals] at hle; omega, ?_⟩
      rw [Nat.add_zero, hl] at hb0
      rw [hb0]; rfl
    | succ i => exact g2 i (by simpa [unpack, unpackOne] using q1) (by simpa using q2)

/-- the labels that are left -/
def srcLabels : List TV → List Nat
  | [] => []
  | .arr L :: r => L :: srcLabels r
  | .map L :: r => L :: srcLabels r
  | _ :: r => srcLabels r
theorem leave_ok : ∀ {l : List TV} {obs obs1 : List Ob}, leave wr l obs = some obs1 → Drops obs obs1 ∧ (srcLabels l).Nodup ∧ (∀ L ∈ srcLabels l, wr L = true ∧ (getOb obs L).live = true ∧ (∀ cs, getOb obs L ≠ .box cs) ∧ getOb obs1 L = .dead) ∧ (∀ L, L ∉ srcLabels l → getOb obs1 L = getOb obs L) ∧
    ∀ tv ∈ l, (∃ k x, tv = .val k x) ∨ (∃ e, tv = .nilk e) ∨ ∃ L ∈ srcLabels l, tv = .arr L ∨ tv = .map L
  | [], obs, obs1, h => by cases h; exact ⟨⟨rfl, fun _ => .inl rfl⟩, by simp [srcLabels], by simp [srcLabels], fun _ _ => rfl, by simp⟩
  | tv :: r, obs, obs1, h => by
    have step : ∀ {L : Nat}, L < obs.length → (getOb obs L).live = true → (∀ cs, getOb obs L ≠ .box cs) → wr L = true → leave wr r (obs.set L .dead) = some obs1 → srcLabels (tv :: r) = L :: srcLabels r → (tv = .arr L ∨ tv = .map L) →
        Drops obs obs1 ∧ (srcLabels (tv :: r)).Nodup ∧ (∀ L ∈ srcLabels (tv :: r), wr L = true ∧ (getOb obs L).live = true ∧ (∀ cs, getOb obs L ≠ .box cs) ∧ getOb obs1 L = .dead) ∧ (∀ L, L ∉ srcLabels (tv :: r) → getOb obs1 L = getOb obs L) ∧
          ∀ t ∈ tv :: r, (∃ k x, t = .val k x) ∨ (∃ e, t = .nilk e) ∨ ∃ L ∈ srcLabels (tv :: r), t = .arr L ∨ t = .map L := by
      intro L hL hlv hnb hw hlf hsl htv
      obtain ⟨g1, g2, g3, g4, g5⟩ := leave_ok hlf
      have hd : ∀ M, getOb (obs.set L .dead) M = if L = M then .dead else getOb obs M := fun M => getOb_set hL
      have hLn : L ∉ srcLabels r := fun q => by
        have := (g3 L q).2.1
        rw [hd, if_pos rfl] at this; cases this
      rw [hsl]
      refine ⟨⟨by rw [g1.1]; simp, fun M => ?_⟩, List.nodup_cons.2 ⟨hLn, g2⟩, fun M hM => ?_, fun M hM => ?_, fun t ht => ?_⟩
      · rcases g1.2 M with q | q
        · rw [q, hd]
          by_cases e : L = M
          · rw [if_pos e]; exact .inr rfl
          · rw [if_neg e]; exact .inl rfl
        · exact .inr q
      · rcases List.mem_cons.1 hM with rfl | hM
        · refine ⟨hw, hlv, hnb, ?_⟩
          rw [g4 M hLn, hd, if_pos rfl]
        · have hne : L ≠ M := fun e => hLn (e ▸ hM)
          have := g3 M hM
          rw [hd, if_neg hne] at this
          exact this
      · have h1 : M ≠ L := fun e => hM (e ▸ List.mem_cons_self ..)
        rw [g4 M (fun q => hM (List.mem_cons_of_mem _ q)), hd, if_neg (fun e => h1 e.symm)]
      · rcases List.mem_cons.1 ht with rfl | ht
        · exact .inr (.inr ⟨L, List.mem_cons_self .., htv⟩)
        · rcases g5 t ht with q | q | ⟨M, hM, q⟩
          · exact .inl q
          · exact .inr (.inl q)
          · exact .inr (.inr ⟨M, List.mem_cons_of_mem _ hM, q⟩)
    have pass : leave wr r obs = some obs1 → srcLabels (tv :: r) = srcLabels r → ((∃ k x, tv = .val k x) ∨ ∃ e, tv = .nilk e) →
        Drops obs obs1 ∧ (srcLabels (tv :: r)).Nodup ∧ (∀ L ∈ srcLabels (tv :: r), wr L = true ∧ (getOb obs L).live = true ∧ (∀ cs, getOb obs L ≠ .box cs) ∧ getOb obs1 L = .dead) ∧ (∀ L, L ∉ srcLabels (tv :: r) → getOb obs1 L = getOb obs L) ∧
          ∀ t ∈ tv :: r, (∃ k x, t = .val k x) ∨ (∃ e, t = .nilk e) ∨ ∃ L ∈ srcLabels (tv :: r), t = .arr L ∨ t = .map L := by
      intro hlf hsl htv
      obtain ⟨g1, g2, g3, g4, g5⟩ := leave_ok hlf
      rw [hsl]
      refine ⟨g1, g2, g3, g4, fun t ht => ?_⟩
      rcases List.mem_cons.1 ht with rfl | ht
      · rcases htv with q | q
        · exact .inl q
        · exact .inr (.inl q)
      · exact g5 t ht
    cases tv with
    | arr L =>
      simp only [leave] at h
      split at h
      · rename_i e l ho hw
        exact step (getOb_lt ho rfl) (by rw [ho]; rfl) (fun cs q => by rw [ho] at q; cases q) hw h rfl (.inl rfl)
      · cases h
    | map L =>
      simp only [leave] at h
      split at h
      · rename_i kk kv m ho hw
        exact step (getOb_lt ho rfl) (by rw [ho]; rfl) (fun cs q => by rw [ho] at q; cases q) hw h rfl (.inr rfl)
      · cases h
    | val k x => exact pass h rfl (.inl ⟨k, x, rfl⟩)
    | nilk e => exact pass h rfl (.inr ⟨e, rfl⟩)
    | _ => simp [leave] at h

end Go.Proofs.YtocgdpnealaoeaaDoor.Ev
