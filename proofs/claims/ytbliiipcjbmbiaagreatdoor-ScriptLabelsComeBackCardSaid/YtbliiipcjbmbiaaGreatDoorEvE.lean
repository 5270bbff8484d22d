/- The small evaluator's rules for one operation, for a region, for the code of a function (this session's own). No condition. -/
import Derived.Test.YtbliiipcjbmbiaaGreatDoorEvS
namespace Go.Proofs.YtbliiipcjbmbiaaGreatDoor.Ev
open Go.RowKit
set_option linter.unusedVariables false

abbrev RS := Res (TV × List Ob)
def nowV (tv : TV) (obs : List Ob) : RS := .now (tv, obs)
def kindOf (Γ : Ctx) (t : Nat) : Option Kd := match Γ.ty t with
  | some y => some y.k
  | none => none

def isIn (d : Option Nat) (l : List Nat) : Bool := match d with
  | some d => l.any (Nat.beq d)
  | none => false
def evMove (Γ : Ctx) (wr : Nat → Bool) (d : Option Nat) (t : Nat) (tv : TV) (obs : List Ob) : RS :=
  match isIn d Γ.vals with
  | true => match kindOf Γ t with
    | some k => match toVal k tv obs, frz1 wr tv obs with
      | some x, some obs1 => nowV (.val k x) obs1
      | _, _ => .fail
    | none => .fail
  | false => match tv with
  | .nil => match kindOf Γ t with
    | some (.slice e) => nowV (.nilk e) obs
    | _ => .fail
  | tv => nowV tv obs
def evPick (c a b : TV) (obs : List Ob) : RS :=
  match c with
  | .val .bool c => .ite c (nowV a obs) (nowV b obs)
  | _ => .fail
def evAlloc (Γ : Ctx) (t : Nat) (obs : List Ob) : RS :=
  match kindOf Γ t with
  | some k => nowV (.ptr obs.length 0) (obs ++ [.box (zleaves k)])
  | none => .fail
def boxOf (Γ : Ctx) (t : Nat) (x : TV) (obs : List Ob) : Option (List RV × List Ob) :=
  match kindOf Γ t with
  | some (.agg c) => match x with
    | .sv c' l => match Kd.eq? c' c with
      | some _ => some (l, obs)
      | none => none
    | .val (.agg c') d => match Kd.sim c' c with
      | true => some (leaves (.agg c') d, obs)
      | false => none
    | x => match toVal (.agg c) x obs with
      | some d => some (leaves (.agg c) d, obs)
      | none => none
  | some k => match toLeaf k x obs with
    | some r => some ([r], obs)
    | none => none
  | none => none
def evBox (Γ : Ctx) (t : Nat) (x : TV) (obs : List Ob) : RS :=
  match boxOf Γ t x obs with
  | some (cs, obs1) => nowV (.ptr obs1.length 0) (obs1 ++ [.box cs])
  | none => .fail
def evLoad (Γ : Ctx) (wr : Nat → Bool) (t : Nat) (a : TV) (obs : List Ob) : RS :=
  match kindOf Γ t with
  | none => .fail
  | some k => match a with
    | .rop k' x => match Kd.sim k' k, Nat.blt 0 k'.sz with
      | true, true => nowV (.val k' x) obs
      | _, _ => .fail
    | .ptr L off => match getOb obs L with
      | .box cs => match k with
        | .agg c => match (akind (.agg c) (cs.drop off)).1 with
          | .agg c' => match Kd.sim (.agg c') (.agg c) with
            | true => match gather (.agg c') (cs.drop off) obs, frzAll wr (((cs.drop off).take (Kd.sz (.agg c'))).map RV.tv) obs with
              | some (x, _), some obs1 => nowV (.val (.agg c') x) obs1
              | _, _ => .fail
            | false => .fail
          | _ => .fail
        | k => match cs[off]? with
          | some r => nowV r.tv obs
          | none => .fail
      | _ => .fail
    | .eptr e L i off => match getOb obs L with
      | .arr e' l => match Kd.cast (.slice e') (.slice e) l, Kd.projS e off k with
        | some l, some g => nowV (.val g.p (g.f (gt e.dflt l i))) obs
        | _, _ => .fail
      | _ => .fail
    | _ => .fail
def evStore (Γ : Ctx) (wr : Nat → Bool) (t : Nat) (a x : TV) (obs : List Ob) : RS :=
  match a with
  | .ptr L off => match wr L with
    | false => .fail
    | true => match getOb obs L with
      | .box cs => match boxOf Γ t x obs with
        | some (m, obs1) => if off + m.length ≤ cs.length then nowV .skipped (obs1.set L (.box (spliceAt cs off m))) else .fail
        | none => .fail
      | _ => .fail
  | .eptr e L i off => match wr L with
    | false => .fail
    | true => match kindOf Γ t with
      | some k => match Kd.updS e off k with
        | none => .fail
        | some g => match toVal g.p x obs, frz1 wr x obs with
          | some y, some obs1 => match getOb obs1 L with
            | .arr e' l => match Kd.cast (.slice e') (.slice e) l with
              | some l => nowV .skipped (obs1.set L (.arr e (setAt l i (g.f (gt e.dflt l i) y))))
              | none => .fail
            | _ => .fail
          | _, _ => .fail
      | none => .fail
  | _ => .fail
def evNilCheck (x : TV) (obs : List Ob) : RS :=
  match x with
  | .ptr L off => nowV x obs
  | .eptr e L i off => nowV x obs
  | .rop k d => nowV x obs
  | _ => .fail
def evFieldAddr (Γ : Ctx) (s : Nat) (x : TV) (f : Nat) (obs : List Ob) : RS :=
  match Γ.ty s with
  | some ⟨.agg c, flds, _, _, _⟩ => match flds[f]? with
    | none => .fail
    | some (off, tf) => match kindOf Γ tf with
      | none => .fail
      | some kf => match Nat.blt 0 kf.sz with
        | false => .fail
        | true => match x with
          | .ptr L o => nowV (.ptr L (o + off)) obs
          | .eptr e L i o => nowV (.eptr e L i (o + off)) obs
          | .rop k d => match Kd.projS k off kf with
            | some g => nowV (.rop g.p (g.f d)) obs
            | none => .fail
          | _ => .fail
  | _ => .fail
def evField (Γ : Ctx) (s : Nat) (x : TV) (f : Nat) (obs : List Ob) : RS :=
  match Γ.ty s with
  | some ⟨.agg c, flds, _, _, _⟩ => match flds[f]? with
    | none => .fail
    | some (off, tf) => match x with
      | .val (.agg k) d => match kindOf Γ tf with
        | some kf => match Kd.projS k off kf with
          | some g => nowV (.val g.p (g.f d)) obs
          | none => .fail
        | none => .fail
      | _ => .fail
  | _ => .fail
def evIndexAddr (Γ : Ctx) (t : Nat) (x i : TV) (obs : List Ob) : RS :=
  match kindOf Γ t, i with
  | some (.slice e), .val (.int _) n => match x with
    | .arr L => match getOb obs L with
      | .arr e' l => match Kd.eq? e' e with
        | some _ => .bind Unit (inb (len l) n) fun _ => nowV (.eptr e L n 0) obs
        | none => .fail
      | .frz e' l => match Kd.cast (.slice e') (.slice e) l with
        | some l => .bind e.T (at? l n) fun d => nowV (.rop e d) obs
        | none => .fail
      | _ => .fail
    | .val (.slice e') l => match Kd.sim e' e with
      | true => .bind e'.T (at? l n) fun d => nowV (.rop e' d) obs
      | false => .fail
    | _ => .fail
  | _, _ => .fail
def evIndex (Γ : Ctx) (t : Nat) (x i : TV) (obs : List Ob) : RS :=
  match kindOf Γ t, x, i with
  | some .str, .val .str s, .val (.int _) n => .bind Int (bt? s n) fun c => nowV (.val (.int .u8) c) obs
  | _, _, _ => .fail
def lowOf : Option TV → Option Int
  | none => some 0
  | some (.val (.int _) n) => some n
  | _ => none
def highOf (len : Int) : Option TV → Option Int
  | none => some len
  | some (.val (.int _) n) => some n
  | _ => none
def evSlice (Γ : Ctx) (own vw : Bool) (wr : Nat → Bool) (t : Nat) (x : TV) (lo hi mx : Option TV) (obs : List Ob) : RS :=
  match mx, kindOf Γ t with
  | none, some .str => match x with
    | .val .str s => match lowOf lo, highOf (ssz s) hi with
      | some a, some b => .bind ByteArray (sub? s a b) fun r => nowV (.val .str r) obs
      | _, _ => .fail
    | _ => .fail
  | none, some (.slice e) => match x with
    | .val k l => match Kd.cast k (.slice e) l with
      | some l => match lowOf lo, highOf (len l) hi with
        | some a, some b => .bind (List e.T) (cut? l a b) fun r => nowV (.val (.slice e) r) obs
        | _, _ => .fail
      | none => .fail
    | .arr L => match getOb obs L with
      | .frz e' l => match Kd.cast (.slice e') (.slice e) l with
        | some l => match lowOf lo, highOf (len l) hi with
          | some a, some b => .bind (List e.T) (cut? l a b) fun r => nowV (.val (.slice e) r) obs
          | _, _ => .fail
        | none => .fail
      | .arr e' l => match Kd.cast (.slice e') (.slice e) l with
        | some l => match lowOf lo, highOf (len l) hi with
          | some a, some b => match wr L, own, vw with
            | true, true, _ => .bind (List e.T) (cut? l a b) fun r => nowV (.arr obs.length) (obs.set L .dead ++ [.arr e r])
            | true, false, false => .bind (List e.T) (cut? l a b) fun r => nowV (.val (.slice e) r) (obs.set L (.frz e l))
            | true, false, true => .bind (List e.T) (cut? l a b) fun _ => nowV (.view e L a b) obs
            | _, _, _ => .fail
          | _, _ => .fail
        | none => .fail
      | _ => .fail
    | .nilk e' => match lowOf lo, highOf 0 hi with
      | some a, some b => .bind (List e.T) (cut? [] a b) fun _ => nowV (.nilk e') obs
      | _, _ => .fail
    | _ => .fail
  | some (.val (.int _) m), some (.slice e) => match x with
    | .val k l => match Kd.cast k (.slice e) l, lowOf lo, hi with
      | some l, some a, some (.val (.int _) b) => .bind Unit (inb (inc (len l)) m) fun _ => .bind Unit (inb (inc m) b) fun _ => .bind (List e.T) (cut? l a b) fun r => nowV (.val (.slice e) r) obs
      | _, _, _ => .fail
    | _ => .fail
  | _, _ => .fail
def evLookup (Γ : Ctx) (t : Nat) (x i : TV) (ok : Bool) (obs : List Ob) : RS :=
  match kindOf Γ t with
  | some (.map kk kv) => match toVal (.map kk kv) x obs, Kd.keyEq kk, toVal kk i obs with
    | some m, some eq, some key => match ok with
      | true => nowV (.tup [.val kv (orD (mget? eq m key) kv.dflt), .val .bool (isS (mget? eq m key))]) obs
      | false => nowV (.val kv (orD (mget? eq m key) kv.dflt)) obs
    | _, _, _ => .fail
  | _ => .fail
def evMapUpdate (Γ : Ctx) (wr : Nat → Bool) (t : Nat) (mp key x : TV) (obs : List Ob) : RS :=
  match kindOf Γ t, mp with
  | some (.map kk kv), .map L => match wr L, frz1 wr x obs with
    | true, some obs1 => match getOb obs1 L with
      | .map kk' kv' m => match Kd.cast (.map kk' kv') (.map kk kv) m, Kd.keyEq kk, toVal kk key obs, toVal kv x obs with
        | some m, some eq, some a, some b => nowV .skipped (obs1.set L (.map kk kv (mput eq m a b)))
        | _, _, _, _ => .fail
      | _ => .fail
    | _, _ => .fail
  | _, _ => .fail
def evMakeMap (Γ : Ctx) (t : Nat) (r : Option TV) (obs : List Ob) : RS :=
  match r with
  | some _ => .fail
  | none => match kindOf Γ t with
    | some (.map kk kv) => nowV (.map obs.length) (obs ++ [.map kk kv []])
    | _ => .fail
/-- a range over a map begins: from here on the map is only read -/
def evRange (Γ : Ctx) (wr : Nat → Bool) (t : Nat) (x : TV) (obs : List Ob) : RS :=
  match kindOf Γ t with
  | some (.map kk kv) => match frz1 wr x obs, toVal (.map kk kv) x obs with
    | some obs1, some m => nowV (.ptr obs1.length 0) (obs1 ++ [.iter kk kv m (List.range m.length) none])
    | _, _ => .fail
  | _ => .fail
def evEntry (x : TV) (obs : List Ob) : RS :=
  match x with
  | .ptr L 0 => match getOb obs L with
    | .iter kk kv m _ (some c) => match kk.isVal && kv.isVal, m[c]? with
      | true, some p => nowV (.tup [.val kk p.1, .val kv p.2]) obs
      | _, _ => .fail
    | _ => .fail
  | _ => .fail
def labelOf : TV → Option Nat
  | .ptr L 0 => some L
  | _ => none
def labelsOf : List TV → Option (List Nat)
  | [] => some []
  | tv :: r => match labelOf tv, labelsOf r with
    | some L, some ls => some (L :: ls)
    | _, _ => none
def evMakeFunc (fn : Go.Fn) (first : Nat) (tvs : List TV) (obs : List Ob) : RS :=
  match fn with
  | .func g => match first with
    | 0 => match labelsOf tvs with
      | some ls => nowV (.fn g ls) obs
      | none => .fail
    | _ => .fail
  | _ => .fail
def evMakeSlice (Γ : Ctx) (t : Nat) (len cap : TV) (obs : List Ob) : RS :=
  match Γ.ty t with
  | some ⟨.slice e, _, _, _, bytes⟩ => match len, cap with
    | .val (.int _) n, .val (.int _) c => .bind (List e.T) (mk? bytes e.dflt n c) fun l => nowV (.arr obs.length) (obs ++ [.arr e l])
    | _, _ => .fail
  | _ => .fail
def elemsOf (e : Kd) : Nat → List (Nat × TV) → List Ob → Option (List e.T)
  | _, [], _ => some []
  | i, (j, tv) :: r, obs => if i = j then (match toVal e tv obs, elemsOf e (i + 1) r obs with
    | some x, some xs => some (x :: xs)
    | _, _ => none) else none
def evBuildSlice (Γ : Ctx) (wr : Nat → Bool) (t len : Nat) (ps : List (Nat × TV)) (obs : List Ob) : RS :=
  match kindOf Γ t with
  | some (.slice e) => match elemsOf e 0 ps obs, frzAll wr (ps.map (·.2)) obs with
    | some l, some obs1 => match Nat.beq ps.length len && Nat.ble (len * e.sz) 16777216 with
      | true => nowV (.arr obs1.length) (obs1 ++ [.arr e l])
      | false => .fail
    | _, _ => .fail
  | _ => .fail
def fillOf (Γ : Ctx) (k : Kd) (flds : List (Nat × Nat)) : List (Nat × TV) → k.T → List Ob → Option k.T
  | [], x, _ => some x
  | (i, tv) :: r, x, obs => match flds[i]? with
    | some (off, tf) => match kindOf Γ tf with
      | some kf => match Kd.updS k off kf with
        | some g => match toVal g.p tv obs with
          | some y => fillOf Γ k flds r (g.f x y) obs
          | none => none
        | none => none
      | none => none
    | none => none
/-- a struct whose parts stay what they are -/
def svFill (Γ : Ctx) (flds : List (Nat × Nat)) : List (Nat × TV) → List RV → List Ob → Option (List RV)
  | [], cs, _ => some cs
  | (i, tv) :: r, cs, obs => match flds[i]? with
    | some (off, tf) => match boxOf Γ tf tv obs with
      | some (m, _) => if off + m.length ≤ cs.length then svFill Γ flds r (spliceAt cs off m) obs else none
      | none => none
    | none => none
def evBuild (Γ : Ctx) (wr : Nat → Bool) (sv : Bool) (t : Nat) (ps : List (Nat × TV)) (obs : List Ob) : RS :=
  match Γ.ty t with
  | some y => match y.k with
    | .agg c => match sv with
      | true => match svFill Γ y.flds ps (zleaves c) obs with
        | some l => nowV (.sv c l) obs
        | none => .fail
      | false => match fillOf Γ (.agg c) y.flds ps (Kd.dflt (.agg c)) obs, frzAll wr (ps.map (·.2)) obs with
        | some x, some obs1 => nowV (.val (.agg c) x) obs1
        | _, _ => .fail
    | _ => .fail
  | none => .fail
def evLen (Γ : Ctx) (t : Nat) (x : TV) (obs : List Ob) : RS :=
  match kindOf Γ t with
  | some .str => match x with
    | .val .str s => nowV (.val (.int .i64) (ssz s)) obs
    | _ => .fail
  | some (.slice e) => match x with
    | .val (.slice _) l => nowV (.val (.int .i64) (len l)) obs
    | .val (.oslice _) n => nowV (.val (.int .i64) (olen n)) obs
    | x => match toVal (.slice e) x obs with
      | some l => nowV (.val (.int .i64) (len l)) obs
      | none => .fail
  | some (.oslice _) => match x with
    | .val (.slice _) l => nowV (.val (.int .i64) (len l)) obs
    | .val (.oslice _) n => nowV (.val (.int .i64) (olen n)) obs
    | _ => .fail
  | some (.map kk kv) => match toVal (.map kk kv) x obs with
    | some l => nowV (.val (.int .i64) (len l)) obs
    | none => .fail
  | _ => .fail
def evCap (Γ : Ctx) (t : Nat) (x : TV) (obs : List Ob) : RS :=
  match kindOf Γ t, x with
  | some (.slice e), .nilk _ => nowV (.val (.int .i64) 0) obs
  | _, _ => .fail
def tailOf (Γ : Ctx) (e : Kd) (tx : Nat) (x : TV) (obs : List Ob) : Option (List e.T) :=
  match kindOf Γ tx with
  | some .str => match x with
    | .val .str s => Kd.cast (.slice (.int .u8)) (.slice e) (bytesOf s)
    | _ => none
  | some (.slice e') => match Kd.eq? e' e with
    | some _ => toVal (.slice e) x obs
    | none => none
  | _ => none
def evAppend (Γ : Ctx) (wr : Nat → Bool) (t tx : Nat) (s x : TV) (obs : List Ob) : RS :=
  match Γ.ty t with
  | some ⟨.slice e, _, _, _, bytes⟩ => match tailOf Γ e tx x obs, (if e.flat then some obs else frz1 wr x obs) with
    | some ys, some obs1 => match s with
      | .nilk _ => .bind (List e.T) (app? bytes [] ys) fun l => nowV (.arr obs1.length) (obs1 ++ [.arr e l])
      | .nil => .bind (List e.T) (app? bytes [] ys) fun l => nowV (.arr obs1.length) (obs1 ++ [.arr e l])
      | .arr L => match wr L with
        | true => match getOb obs1 L with
          | .arr e' l => match Kd.cast (.slice e') (.slice e) l with
            | some l => .bind (List e.T) (app? bytes l ys) fun r => nowV (.arr obs1.length) (obs1.set L .dead ++ [.arr e r])
            | none => .fail
          | _ => .fail
        | false => .fail
      | _ => .fail
    | _, _ => .fail
  | _ => .fail
/-- append(nil, make([]T, n)...) -/
def evAppendZ (Γ : Ctx) (t : Nat) (s x : TV) (obs : List Ob) : RS :=
  match Γ.ty t with
  | some ⟨.slice e, _, _, _, bytes⟩ => match Nat.blt 0 e.sz, s, x with
    | true, .nilk _, .val (.int _) n => .bind Unit (inb n 0) fun _ => .bind (List e.T) (mk? bytes e.dflt n n) fun l => nowV (.arr obs.length) (obs ++ [.arr e l])
    | _, _, _ => .fail
  | _ => .fail
def evClear (Γ : Ctx) (wr : Nat → Bool) (t : Nat) (x : TV) (obs : List Ob) : RS :=
  match kindOf Γ t with
  | some (.slice e) => match x with
    | .view e' L a b => match wr L with
      | true => match getOb obs L with
        | .arr e2 l => match Kd.cast (.slice e2) (.slice e') l, Kd.eq? e' e with
          | some l, some _ => nowV .dead (obs.set L (.arr e' (clr e'.dflt l a b)))
          | _, _ => .fail
        | _ => .fail
      | false => .fail
    | _ => .fail
  | _ => .fail
def evMinMax (mx : Bool) (a b : TV) (obs : List Ob) : RS :=
  match a, b with
  | .val (.int j) x, .val (.int k) y => nowV (.val (.int j) (match mx with | true => imax x y | false => imin x y)) obs
  | _, _ => .fail
def evExtract (x : TV) (i : Nat) (obs : List Ob) : RS :=
  match x with
  | .tup l => match l[i]? with
    | some r => nowV r.tv obs
    | none => .fail
  | _ => .fail
def evConvert (Γ : Ctx) (src dst : Nat) (x : TV) (obs : List Ob) : RS :=
  match kindOf Γ src, kindOf Γ dst with
  | some (.int _), some (.int k) => match x with
    | .val (.int _) n => nowV (.val (.int k) (iwr k n)) obs
    | _ => .fail
  | some .str, some .str => match x with
    | .val .str s => nowV x obs
    | _ => .fail
  | some (.slice (.int .u8)), some .str => match toVal (.slice (.int .u8)) x obs with
    | some l => nowV (.val .str (strOf l)) obs
    | none => .fail
  | some .str, some (.slice (.int .u8)) => match x with
    | .val .str s => .bind (List Int) (app? 1 [] (bytesOf s)) fun l => nowV (.arr obs.length) (obs ++ [.arr (.int .u8) l])
    | _ => .fail
  | _, _ => .fail
def evBinInt (op : BinOp) (j : IntKind) (a b : Int) (obs : List Ob) : RS :=
  match op with
  | .add => nowV (.val (.int j) (iadd j a b)) obs
  | .sub => nowV (.val (.int j) (isub j a b)) obs
  | .mul => nowV (.val (.int j) (imul j a b)) obs
  | .quo => .bind Int (iquo? j a b) fun r => nowV (.val (.int j) r) obs
  | .rem => .bind Int (irem? j a b) fun r => nowV (.val (.int j) r) obs
  | .and => nowV (.val (.int j) (iand j a b)) obs
  | .or => nowV (.val (.int j) (ior j a b)) obs
  | .xor => nowV (.val (.int j) (ixor j a b)) obs
  | .andNot => nowV (.val (.int j) (iandn j a b)) obs
  | .eql => nowV (.val .bool (ieq a b)) obs
  | .neq => nowV (.val .bool (ine a b)) obs
  | .lss => nowV (.val .bool (ilt a b)) obs
  | .leq => nowV (.val .bool (ile a b)) obs
  | .gtr => nowV (.val .bool (igt a b)) obs
  | .geq => nowV (.val .bool (ige a b)) obs
  | _ => .fail
def evShift (op : BinOp) (j : IntKind) (a b : Int) (obs : List Ob) : RS :=
  match op with
  | .shl => .bind Int (ishl? j a b) fun r => nowV (.val (.int j) r) obs
  | .shr => .bind Int (ishr? j a b) fun r => nowV (.val (.int j) r) obs
  | _ => .fail
def evBinStr (op : BinOp) (a b : ByteArray) (obs : List Ob) : RS :=
  match op with
  | .add => .bind ByteArray (cat? a b) fun r => nowV (.val .str r) obs
  | .eql => nowV (.val .bool (seq a b)) obs
  | .neq => nowV (.val .bool (sne a b)) obs
  | .lss => nowV (.val .bool (slt a b)) obs
  | .leq => nowV (.val .bool (sle a b)) obs
  | .gtr => nowV (.val .bool (sgt a b)) obs
  | .geq => nowV (.val .bool (sge a b)) obs
  | _ => .fail
def isShift : BinOp → Bool
  | .shl => true
  | .shr => true
  | _ => false
/-- pointers, of which it is known whether they are nil: equal if both are, not if one is -/
def pcmp? (a b : Bool) : Option Bool := match a with
  | true => some b
  | false => match b with
    | true => some false
    | false => none
def evPtrCmp (Γ : Ctx) (op : BinOp) (t : Nat) (m : Option Bool) (obs : List Ob) : RS := match kindOf Γ t with
  | some .optr => match op with
    | .eql => .bind Bool m fun r => nowV (.val .bool r) obs
    | .neq => .bind Bool m fun r => nowV (.val .bool (bnot r)) obs
    | _ => .fail
  | _ => .fail
/-- addresses of variables: of one variable -/
def lcmp? (L off L' off' : Nat) : Option Bool := match Nat.beq L L' with
  | true => some (Nat.beq off off')
  | false => none
def evBinOp (Γ : Ctx) (op : BinOp) (t : Nat) (x y : TV) (obs : List Ob) : RS :=
  match x, y with
  | .val (.int j) a, .val (.int k) b => match isShift op with
    | true => evShift op j a b obs
    | false => match ikEq j k with
      | true => evBinInt op j a b obs
      | false => .fail
  | .val .str a, .val .str b => evBinStr op a b obs
  | .val .bool a, .val .bool b => match kindOf Γ t with
    | some .bool => match op with
      | .eql => nowV (.val .bool (beq2 a b)) obs
      | .neq => nowV (.val .bool (bne2 a b)) obs
      | _ => .fail
    | _ => .fail
  | .val (.agg c) a, .val k b => match kindOf Γ t with
    | some (.agg kt) => match Γ.eqs.any (Nat.beq t), Kd.cast (.agg c) (.agg kt) a, Kd.cast k (.agg kt) b with
      | true, some a, some b => match op with
        | .eql => nowV (.val .bool (kbeq (.agg kt) a b)) obs
        | .neq => nowV (.val .bool (bnot (kbeq (.agg kt) a b))) obs
        | _ => .fail
      | _, _, _ => .fail
    | _ => .fail
  | .val .optr a, .val .optr b => evPtrCmp Γ op t (pcmp? a b) obs
  | .ptr _ _, .val .optr b => evPtrCmp Γ op t (pcmp? false b) obs
  | .val .optr a, .ptr _ _ => evPtrCmp Γ op t (pcmp? a false) obs
  | .ptr L off, .ptr L' off' => evPtrCmp Γ op t (lcmp? L off L' off') obs
  | _, _ => .fail
def evUnOp (op : UnOp) (x : TV) (obs : List Ob) : RS :=
  match op, x with
  | .not, .val .bool b => nowV (.val .bool (bnot b)) obs
  | .neg, .val (.int j) n => nowV (.val (.int j) (isub j 0 n)) obs
  | _, _ => .fail
def evCallFn (Γ : Ctx) (wr : Nat → Bool) (k g : Nat) (tvs : List TV) (obs : List Ob) : RS :=
  match Γ.fn g with
  | none => .fail
  | some F => match moved wr F.ps tvs obs with
    | none => .fail
    | some obs1 => match argsOf Γ k F.ps tvs obs obs1, (if F.rs.all Lm.flat then some obs1 else lent wr F.ps tvs obs1) with
      | some xs, some obs2 => .bind (OT F.rs) (F.f k xs) fun y => nowV (tvOf (back F.rs y obs2).1) (back F.rs y obs2).2
      | _, _ => .fail
def fnsOf : List TV → Option (List Nat)
  | [] => some []
  | .fn g [] :: r => match fnsOf r with
    | some gs => some (g :: gs)
    | none => none
  | _ => none
def evCallIo (Γ : Ctx) (wr : Nat → Bool) (k : Nat) (F : IoFn) (tvs : List TV) (obs : List Ob) : RS :=
  match tvs with
  | [] => .fail
  | tv0 :: r => match fnsOf r with
    | none => .fail
    | some gs => match tv0 with
      | .arr L => match wr L, getOb obs L with
        | true, .arr e' l => match Kd.cast (.slice e') (.slice F.e) l with
          | some l => .bind (List F.e.T) (F.f k l gs) fun l' => nowV (.tup []) (obs.set L (.arr F.e l'))
          | none => .fail
        | _, _ => .fail
      | .nilk _ => .bind (List F.e.T) (F.f k [] gs) fun _ => nowV (.tup []) obs
      | .nil => .bind (List F.e.T) (F.f k [] gs) fun _ => nowV (.tup []) obs
      | _ => .fail
def cloArg (a : Kd) (tvs : List TV) (obs : List Ob) : Option a.T :=
  match tvs with
  | [x] => toVal a x obs
  | [x, y] => match a with
    | .pair p q => match toVal p x obs, toVal q y obs with
      | some u, some v => some (u, v)
      | _, _ => none
    | _ => none
  | _ => none
/-! ### what is packed -/
/-- the shape of a slot that varies -/
def shapeOf (tv : TV) (obs : List Ob) : Option SV :=
  match tv with
  | .val k _ => some (.val k)
  | .nilk e => some (.arr e)
  | .arr L => match getOb obs L with
    | .arr e _ => some (.arr e)
    | _ => none
  | .map L => match getOb obs L with
    | .map kk kv _ => some (.map kk kv)
    | _ => none
  | _ => none
def shapesOf : List TV → List Ob → Option (List SV)
  | [], _ => some []
  | tv :: r, obs => match shapeOf tv obs, shapesOf r obs with
    | some s, some l => some (s :: l)
    | _, _ => none
/-- the own arrays and maps among the sources leave their labels -/
def leave (wr : Nat → Bool) : List TV → List Ob → Option (List Ob)
  | [], obs => some obs
  | .arr L :: r, obs => match getOb obs L, wr L with
    | .arr _ _, true => leave wr r (obs.set L .dead)
    | _, _ => none
  | .map L :: r, obs => match getOb obs L, wr L with
    | .map _ _ _, true => leave wr r (obs.set L .dead)
    | _, _ => none
  | .val _ _ :: r, obs => leave wr r obs
  | .nilk _ :: r, obs => leave wr r obs
  | _, _ => none
def packOne (s : SV) (tv : TV) (obs : List Ob) : Option s.T :=
  match s with
  | .val k => match tv with
    | .val k' x => Kd.cast k' k x
    | .nilk e => Kd.cast (.slice e) k []
    | _ => none
  | .arr e => match tv with
    | .nilk _ => some []
    | .arr L => match getOb obs L with
      | .arr e' l => Kd.cast (.slice e') (.slice e) l
      | _ => none
    | _ => none
  | .map kk kv => match tv with
    | .map L => match getOb obs L with
      | .map kk' kv' m => Kd.cast (.map kk' kv') (.map kk kv) m
      | _ => none
    | _ => none
def pack : (ss : List SV) → List TV → List Ob → Option (XT ss)
  | [], [], _ => some ()
  | [s], [tv], obs => packOne s tv obs
  | s :: t :: r, tv :: tvs, obs => match packOne s tv obs, pack (t :: r) tvs obs with
    | some x, some xs => some (x, xs)
    | _, _ => none
  | _, _, _ => none
def unpackOne : (s : SV) → s.T → List Ob → RV × List Ob
  | .val k, x, obs => (.val k x, obs)
  | .arr e, l, obs => (.arr obs.length, obs ++ [.arr e l])
  | .map kk kv, m, obs => (.map obs.length, obs ++ [.map kk kv m])
def unpack : (ss : List SV) → XT ss → List Ob → List RV × List Ob
  | [], _, obs => ([], obs)
  | [s], x, obs => ([(unpackOne s x obs).1], (unpackOne s x obs).2)
  | s :: t :: r, x, obs => match unpackOne s x.1 obs with
    | (v, obs1) => match unpack (t :: r) x.2 obs1 with
      | (vs, obs2) => (v :: vs, obs2)
def srcObs : List (Nat × Nat) → List Ob → Option (List TV)
  | [], _ => some []
  | (L, n) :: r, obs => match getOb obs L with
    | .box cs => match Nat.beq cs.length n with
      | true => match srcObs r obs with
        | some b => some (cs.map RV.tv ++ b)
        | none => none
      | false => none
    | _ => none

def openSet : List (Nat × Nat) → List RV → List Ob → List Ob
  | (L, n) :: r, vs, obs => openSet r (vs.drop n) (obs.set L (.box (vs.take n)))
  | [], _, obs => obs
def allWr (wr : Nat → Bool) : List Nat → Bool
  | [] => true
  | L :: r => wr L && allWr wr r
def nodupB : List Nat → Bool
  | [] => true
  | a :: r => !(r.any (Nat.beq a)) && nodupB r
/-! ### calls that change variables of the caller -/
def SV.flat : SV → Bool
  | .val k => k.flat
  | .arr e => e.flat
  | .map kk kv => kk.flat && kv.flat
def SV.leaf : SV → Bool
  | .val k => !k.isAgg
  | _ => true
def killObs : List Nat → List Ob → List Ob
  | [], obs => obs
  | L :: r, obs => killObs r (obs.set L .dead)
def plainTVs : List XPm → List TV → List TV
  | .pl _ :: ps, tv :: tvs => tv :: plainTVs ps tvs
  | .bx _ :: ps, _ :: tvs => plainTVs ps tvs
  | .clo _ _ :: ps, _ :: tvs => plainTVs ps tvs
  | _, _ => []
def capsAgree (Ls : List Nat) : List Nat → List Nat → Bool
  | [], [] => true
  | i :: is, L :: r => (match Ls[i]? with
    | some M => Nat.beq M L
    | none => false) && capsAgree Ls is r
  | _, _ => false
/-- the variables that stand behind the parameters -/
def boxesAgree (Ls : List Nat) : List XPm → List TV → Bool
  | [], [] => true
  | .pl _ :: ps, _ :: tvs => boxesAgree Ls ps tvs
  | .bx i :: ps, tv :: tvs => (match labelOf tv with
    | some L => capsAgree Ls [i] [L]
    | none => false) && boxesAgree Ls ps tvs
  | .clo g is :: ps, tv :: tvs => (match tv with
    | .fn g' caps => Nat.beq g g' && capsAgree Ls is caps
    | _ => false) && boxesAgree Ls ps tvs
  | _, _ => false
def capsFind (i : Nat) : List Nat → List Nat → Option Nat
  | j :: is, L :: r => bif Nat.beq i j then some L else capsFind i is r
  | _, _ => none
def boxFind (i : Nat) : List XPm → List TV → Option Nat
  | .pl _ :: ps, _ :: tvs => boxFind i ps tvs
  | .bx j :: ps, tv :: tvs => match Nat.beq i j, labelOf tv with
    | true, some L => some L
    | _, _ => boxFind i ps tvs
  | .clo _ is :: ps, tv :: tvs => match tv with
    | .fn _ caps => match capsFind i is caps with
      | some L => some L
      | none => boxFind i ps tvs
    | _ => boxFind i ps tvs
  | _, _ => none
def boxesOf (ps : List XPm) (tvs : List TV) : Nat → List Nat → Option (List Nat)
  | _, [] => some []
  | i, _ :: r => match boxFind i ps tvs, boxesOf ps tvs (i + 1) r with
    | some L, some Ls => some (L :: Ls)
    | _, _ => none
def zipN : List Nat → List Nat → List (Nat × Nat)
  | L :: r, c :: cs => (L, c) :: zipN r cs
  | _, _ => []
def cnts0 : Nat → List Nat → List (Nat × Nat)
  | _, [] => []
  | i, c :: cs => (i, c) :: cnts0 (i + 1) cs
def evCallX (Γ : Ctx) (wr : Nat → Bool) (k : Nat) (F : XFn) (tvs : List TV) (obs : List Ob) : RS :=
  match boxesOf F.ps tvs 0 F.cs with
  | none => .fail
  | some Ls => match boxesAgree Ls F.ps tvs && (nodupB Ls && allWr wr Ls) with
    | false => .fail
    | true => match srcObs (zipN Ls F.cs) obs with
      | none => .fail
      | some src => match leave wr src obs, pack F.ss src obs with
        | some o1, some x => match moved wr (plains F.ps) (plainTVs F.ps tvs) (killObs Ls o1) with
          | none => .fail
          | some obs1 => match argsOf Γ k (plains F.ps) (plainTVs F.ps tvs) obs obs1, (if F.rs.all Lm.flat && F.ss.all SV.flat then some obs1 else lent wr (plains F.ps) (plainTVs F.ps tvs) obs1) with
            | some xs, some obs2 => .bind (OT F.rs × XT F.ss) (F.f k x xs) fun y => nowV (tvOf (back F.rs y.1 obs2).1) (openSet (zipN Ls F.cs) (unpack F.ss y.2 (back F.rs y.1 obs2).2).1 (unpack F.ss y.2 (back F.rs y.1 obs2).2).2)
            | _, _ => .fail
        | _, _ => .fail
def evCallY (wr : Nat → Bool) (k : Nat) (F : YFn) (tvs : List TV) (obs : List Ob) : RS := .bind (TV × List Ob) (F.f k tvs wr obs) fun p => .now p
def evCallV (Γ : Ctx) (wr : Nat → Bool) (k : Nat) (f : TV) (tvs : List TV) (obs : List Ob) : RS :=
  match f with
  | .fn g caps => match Γ.io g with
    | some F => evCallIo Γ wr k F (tvs ++ caps.map fun L => .ptr L 0) obs
    | none => match Γ.xf g with
      | some F => evCallX Γ wr k F (tvs ++ caps.map fun L => .ptr L 0) obs
      | none => match Γ.yf g with
        | some F => evCallY wr k F (tvs ++ caps.map fun L => .ptr L 0) obs
        | none => evCallFn Γ wr k g (tvs ++ caps.map fun L => .ptr L 0) obs
  | .fnv a r f => match cloArg a tvs obs with
    | some x => .bind r.T (f x) fun y => nowV (.val r y) obs
    | none => .fail
  | _ => .fail
def evBuiltin (Γ : Ctx) (wr : Nat → Bool) (b : Builtin) (argTypes : List Nat) (tvs : List TV) (obs : List Ob) : RS :=
  match b with
  | .len => match tvs, argTypes with
    | [x], [t] => evLen Γ t x obs
    | _, _ => .fail
  | .cap => match tvs, argTypes with
    | [x], [t] => evCap Γ t x obs
    | _, _ => .fail
  | .append => match tvs, argTypes with
    | [s, x], [t, tx] => match kindOf Γ tx with
      | some (.int _) => evAppendZ Γ t s x obs
      | _ => evAppend Γ wr t tx s x obs
    | _, _ => .fail
  | .clear => match tvs, argTypes with
    | [x], [t] => evClear Γ wr t x obs
    | _, _ => .fail
  | .max => match tvs with
    | [a, b] => evMinMax true a b obs
    | _ => .fail
  | .min => match tvs with
    | [a, b] => evMinMax false a b obs
    | _ => .fail
  | _ => .fail

def evalOp0 (Γ : Ctx) (wr : Nat → Bool) (k : Nat) (o : Oper) (ρ : Operand → TV) (obs : List Ob) : RS :=
  match o.op with
  | .move x => evMove Γ wr o.dst o.type (ρ x) obs
  | .assign x => evMove Γ wr o.dst o.type (ρ x) obs
  | .pick c a b => evPick (ρ c) (ρ a) (ρ b) obs
  | .alloc t => evAlloc Γ t obs
  | .box t x => evBox Γ t (ρ x) obs
  | .load t a => evLoad Γ wr t (ρ a) obs
  | .store t a x => evStore Γ wr t (ρ a) (ρ x) obs
  | .nilCheck x => evNilCheck (ρ x) obs
  | .fieldAddr s x f => evFieldAddr Γ s (ρ x) f obs
  | .field s x f => evField Γ s (ρ x) f obs
  | .indexAddr t x i => evIndexAddr Γ t (ρ x) (ρ i) obs
  | .index t x i => evIndex Γ t (ρ x) (ρ i) obs
  | .slice t x lo hi mx => evSlice Γ (isIn o.dst Γ.cuts) (isIn (o.dst.map fun d => d + 1000000) Γ.cuts) wr t (ρ x) (lo.map ρ) (hi.map ρ) (mx.map ρ) obs
  | .lookup t x i ok => evLookup Γ t (ρ x) (ρ i) ok obs
  | .mapUpdate t m key x => evMapUpdate Γ wr t (ρ m) (ρ key) (ρ x) obs
  | .makeMap t r => evMakeMap Γ t (r.map ρ) obs
  | .range t x => evRange Γ wr t (ρ x) obs
  | .entry x => evEntry (ρ x) obs
  | .makeFunc fn first caps => evMakeFunc fn first.toList.length (caps.toList.map ρ) obs
  | .makeSlice t l c => evMakeSlice Γ t (ρ l) (ρ c) obs
  | .buildSlice t len ps => evBuildSlice Γ wr t len (ps.toList.map fun p => (p.1, ρ p.2)) obs
  | .build t ps => evBuild Γ wr (isIn o.dst Γ.svs) t (ps.toList.map fun p => (p.1, ρ p.2)) obs
  | .extract x i => evExtract (ρ x) i obs
  | .convert s d x => evConvert Γ s d (ρ x) obs
  | .binOp op t x y _ => evBinOp Γ op t (ρ x) (ρ y) obs
  | .unOp op _ x => evUnOp op (ρ x) obs
  | .call c => match c.callee with
    | .builtin b => evBuiltin Γ wr b c.argTypes.toList (c.args.toList.map ρ) obs
    | .value f => evCallV Γ wr k (ρ f) (c.args.toList.map ρ) obs
    | .invoke _ _ => .fail
  | _ => .fail

/-! ### a new array that is plain data from the beginning -/
def rvBelow (n : Nat) : RV → Bool
  | .arr L => Nat.blt L n
  | .map L => Nat.blt L n
  | .ptr L _ => Nat.blt L n
  | .fn _ caps => caps.all fun L => Nat.blt L n
  | _ => true
def boxesBelow (n : Nat) : List Ob → Bool
  | [] => true
  | .box cs :: r => cs.all (rvBelow n) && boxesBelow n r
  | _ :: r => boxesBelow n r
def forget (n0 : Nat) (p : TV × List Ob) : Option (TV × List Ob) :=
  match p.1 with
  | .arr L => match getOb p.2 L with
    | .arr e l => match Nat.beq (L + 1) p.2.length && Nat.ble n0 L && boxesBelow L (p.2.take L) with
      | true => some (.val (.slice e) l, p.2.take L)
      | false => some p
    | _ => some p
  | _ => some p
def Res.mapR {β γ : Type} (f : β → Option γ) : Res β → Res γ
  | .fail => .fail
  | .now b => match f b with
    | some c => .now c
    | none => .fail
  | .ite c x y => .ite c (x.mapR f) (y.mapR f)
  | .bind α m g => .bind α m fun a => (g a).mapR f
theorem Res.to_mapR {β γ : Type} {f : β → Option γ} {c : γ} : ∀ {r : Res β}, (r.mapR f).To c → ∃ b, r.To b ∧ f b = some c
  | .fail, h => (Res.to_fail h).elim
  | .now b, h => by
    simp only [Res.mapR] at h
    split at h
    · rename_i c' hc
      rw [← Res.to_now h]
      exact ⟨b, rfl, hc⟩
    · exact (Res.to_fail h).elim
  | .ite t x y, h => by
    simp only [Res.mapR] at h
    rcases Res.to_ite h with ⟨rfl, h⟩ | ⟨rfl, h⟩
    · obtain ⟨b, h1, h2⟩ := Res.to_mapR h
      exact ⟨b, h1, h2⟩
    · obtain ⟨b, h1, h2⟩ := Res.to_mapR h
      exact ⟨b, h1, h2⟩
  | .bind α m g, h => by
    simp only [Res.mapR] at h
    obtain ⟨a, rfl, h⟩ := Res.to_bind h
    obtain ⟨b, h1, h2⟩ := Res.to_mapR h
    exact ⟨b, h1, h2⟩
def evalOp (Γ : Ctx) (wr : Nat → Bool) (k : Nat) (o : Oper) (ρ : Operand → TV) (obs : List Ob) : RS :=
  match isIn o.dst Γ.vals with
  | true => (evalOp0 Γ wr k o ρ obs).mapR (forget obs.length)
  | false => evalOp0 Γ wr k o ρ obs

/-! ### regions -/
def dstOf (ops : Array Oper) (j : Nat) : Option Nat := (ops[j]?).bind (·.dst)
def Res.runS {R : Type} (r : RS) (K : TV → List Ob → Option R) : Option R := r.run fun p => p.1.fc fun tv => obF p.2 fun obs => K tv obs
theorem Res.runS_eq {R : Type} (r : RS) (K : TV → List Ob → Option R) : r.runS K = r.run fun p => K p.1 p.2 := by
  unfold Res.runS
  refine congrArg (Res.run r) (funext fun p => ?_)
  rw [TV.fc_eq, obF_eq]
/-- operations that leave variables, arrays and maps as they are (or but freeze some) -/
def quiet (o : Oper) : Bool := match o.op with
  | .move _ => true
  | .assign _ => true
  | .load _ _ => true
  | .nilCheck _ => true
  | .fieldAddr _ _ _ => true
  | .field _ _ _ => true
  | .indexAddr _ _ _ => true
  | .index _ _ _ => true
  | .lookup _ _ _ _ => true
  | .extract _ _ => true
  | .binOp _ _ _ _ _ => true
  | .unOp _ _ _ => true
  | .call c => match c.callee with
    | .builtin .len => true
    | _ => false
  | _ => false
def Res.runQ {R : Type} (q : Bool) (r : RS) (K : TV → List Ob → Option R) : Option R := match q with
  | true => r.run fun p => match p with
    | (tv, obs) => tv.fc fun tv => K tv obs
  | false => r.runS K
theorem Res.runQ_eq {R : Type} (q : Bool) (r : RS) (K : TV → List Ob → Option R) : r.runQ q K = r.run fun p => K p.1 p.2 := by
  cases q with
  | false => exact Res.runS_eq r K
  | true =>
    unfold Res.runQ
    refine congrArg (Res.run r) (funext fun p => ?_)
    obtain ⟨tv, obs⟩ := p
    exact TV.fc_eq _ _
def execOps {R : Type} (Γ : Ctx) (k : Nat) (ops : Array Oper) : List Oper → (St → Option R) → St → Option R
  | [], K, st => K st
  | o :: rest, K, st =>
    match o.guard with
    | none => Res.runQ (quiet o) (evalOp Γ st.wr k o st.ev st.obs) fun tv obs => execOps Γ k ops rest K ((st.with obs).put o.dst tv)
    | some (j, want) => match dstOf ops j with
      | none => none
      | some s => match st.get s with
        | .val .bool g => cnd g
            (match want with
             | true => Res.runQ (quiet o) (evalOp Γ st.wr k o (st.put (some s) (.val .bool true)).ev st.obs) fun tv obs => execOps Γ k ops rest K (((st.put (some s) (.val .bool true)).with obs).put o.dst tv)
             | false => execOps Γ k ops rest K ((st.put (some s) (.val .bool true)).put o.dst .skipped))
            (match want with
             | false => Res.runQ (quiet o) (evalOp Γ st.wr k o (st.put (some s) (.val .bool false)).ev st.obs) fun tv obs => execOps Γ k ops rest K (((st.put (some s) (.val .bool false)).with obs).put o.dst tv)
             | true => execOps Γ k ops rest K ((st.put (some s) (.val .bool false)).put o.dst .skipped))
        | .skipped => execOps Γ k ops rest K (st.put o.dst .skipped)
        | _ => none

/-! ### a region that draws its order: what it looks at stands as it is, whatever the order -/
/-- each slot is written once; an operation waits for those whose slots it looks at, and for none that come later -/
def binder (o : Oper) (j : Nat) : Bool := o.after.toList.any fun e => Region.binds .any e && Nat.beq e.on j
def slotOK (ops : List Oper) (i : Nat) (o : Oper) (t : Nat) : Nat → List Oper → Bool
  | _, [] => true
  | j, q :: r => (match q.dst with
    | none => true
    | some d => !Nat.beq d t || (Nat.blt j i && binder o j)) && slotOK ops i o t (j + 1) r
def dstOK (d i : Nat) : Nat → List Oper → Bool
  | _, [] => true
  | j, q :: r => (Nat.beq i j || (match q.dst with
    | none => true
    | some e => !Nat.beq d e)) && dstOK d i (j + 1) r
def isStore (o : Oper) : Bool := match o.op with
  | .store _ _ _ => true
  | _ => false
/-- sto: what stores, and gives nothing, may be among them -/
def operOK (sto : Bool) (ops : Array Oper) (front : List Oper) (n i : Nat) (o : Oper) : Bool :=
  (match o.dst with
    | none => sto && isStore o
    | some d => Nat.blt d n && dstOK d i 0 front) && (o.looksAt ops).all (fun t => slotOK front i o t 0 front)
def drawOK (sto : Bool) (ops : Array Oper) (front : List Oper) (n : Nat) : Nat → List Oper → Bool
  | _, [] => true
  | i, o :: r => operOK sto ops front n i o && drawOK sto ops front n (i + 1) r
def lowOK : Nat → List Oper → Bool
  | _, [] => true
  | i, o :: r => o.after.toList.all (fun e => !Region.binds .any e || Nat.blt e.on i) && lowOK (i + 1) r
/-- what comes behind the front comes in the order of the text -/
def chainOK (mid : Oper) : Nat → List Oper → Bool
  | _, [] => true
  | j, _ :: r => (r.any (fun q => binder q j) || binder mid j) && chainOK mid (j + 1) r
def tailOK : Nat → List Oper → Bool
  | _, [] => true
  | i, o :: r => binder o (i - 1) && tailOK (i + 1) r
def drawsOK (sto : Bool) (ops : Array Oper) (n m : Nat) : Bool :=
  drawOK sto ops (ops.toList.take m) n 0 (ops.toList.take m) && lowOK 0 ops.toList && (match ops.toList.drop m with
    | [] => true
    | o :: r => chainOK o 0 (ops.toList.take m) && tailOK (m + 1) r)
/-- variables that are made in whatever order are not told of until the others are through -/
def noS : TV → Bool
  | .rop _ _ => false
  | .fnv _ _ _ => false
  | _ => true
def keepNoS (p : TV × List Ob) : Option (TV × List Ob) := match noS p.1 with
  | true => some p
  | false => none
def isAlloc (o : Oper) : Option Nat := match o.op with
  | .alloc t => some t
  | _ => none
def evalF (al : Bool) (Γ : Ctx) (k : Nat) (o : Oper) (ρ : Operand → TV) (obs : List Ob) : RS := match al with
  | false => evalOp Γ (fun _ => false) k o ρ obs
  | true => match isAlloc o with
    | some t => match o.guard, kindOf Γ t with
      | none, some _ => nowV .dead obs
      | _, _ => .fail
    | none => (evalOp Γ (fun _ => false) k o ρ obs).mapR keepNoS
def bindA {R : Type} (Γ : Ctx) : List Oper → (St → Option R) → St → Option R
  | [], K, st => K st
  | o :: r, K, st => match isAlloc o with
    | none => bindA Γ r K st
    | some t => match o.guard, kindOf Γ t with
      | none, some k => bindA Γ r K ((st.with (st.obs ++ [.box (zleaves k)])).put o.dst (.ptr st.obs.length 0))
      | _, _ => none
def execDraw {R : Type} (al : Bool) (Γ : Ctx) (k : Nat) (ops : Array Oper) : List Oper → (St → Option R) → St → Option R
  | [], K, st => K st
  | o :: rest, K, st =>
    match o.guard with
    | none => Res.runS (evalF al Γ k o st.ev st.obs) fun tv obs => match Nat.beq obs.length st.obs.length with
      | true => execDraw al Γ k ops rest K (st.put o.dst tv)
      | false => none
    | some (j, want) => match dstOf ops j with
      | none => none
      | some s => match st.get s with
        | .val .bool g => cnd g
            (match want with
             | true => Res.runS (evalF al Γ k o (st.put (some s) (.val .bool true)).ev st.obs) fun tv obs => match Nat.beq obs.length st.obs.length with
               | true => execDraw al Γ k ops rest K ((st.put (some s) (.val .bool true)).put o.dst tv)
               | false => none
             | false => execDraw al Γ k ops rest K ((st.put (some s) (.val .bool true)).put o.dst .skipped))
            (match want with
             | false => Res.runS (evalF al Γ k o (st.put (some s) (.val .bool false)).ev st.obs) fun tv obs => match Nat.beq obs.length st.obs.length with
               | true => execDraw al Γ k ops rest K ((st.put (some s) (.val .bool false)).put o.dst tv)
               | false => none
             | true => execDraw al Γ k ops rest K ((st.put (some s) (.val .bool false)).put o.dst .skipped))
        | .skipped => execDraw al Γ k ops rest K (st.put o.dst .skipped)
        | _ => none

/-! ### a region that draws its order, with calls among it that are in order -/
def stillOp (o : Oper) : Bool := match o.op with
  | .move _ => true
  | .assign _ => true
  | .pick _ _ _ => true
  | .load _ _ => true
  | .nilCheck _ => true
  | .fieldAddr _ _ _ => true
  | .field _ _ _ => true
  | .extract _ _ => true
  | .binOp _ _ _ _ _ => true
  | .unOp _ _ _ => true
  | _ => false
/-- a string's byte, or a part of a string -/
def strOp (Γ : Ctx) (o : Oper) : Bool := match o.op with
  | .index _ _ _ => true
  | .slice t _ _ _ none => match kindOf Γ t with
    | some .str => true
    | _ => false
  | _ => false
/-- what only reads, and reads only what stood at the beginning -/
def isStill (Γ : Ctx) (o : Oper) : Bool := (stillOp o || strOp Γ o) && !isIn o.dst Γ.vals
/-- a new array that is plain data from the beginning -/
def isBuild (Γ : Ctx) (o : Oper) : Bool := match o.op with
  | .buildSlice _ _ _ => isIn o.dst Γ.vals
  | _ => false
/-- what changes no variable, array or map, nor makes one that has its name yet -/
def calm (Γ : Ctx) (bB : Bool) (o : Oper) : Bool := match isAlloc o with
  | some _ => true
  | none => isStill Γ o || (bB && isBuild Γ o)
def chainsOK (Γ : Ctx) (bB : Bool) : Option Nat → Nat → List Oper → Bool
  | _, _, [] => true
  | prev, i, o :: r => match calm Γ bB o with
    | true => chainsOK Γ bB prev (i + 1) r
    | false => (match prev with
      | none => true
      | some j => binder o j) && chainsOK Γ bB (some i) (i + 1) r
/-- bB: own arrays that there are may be changed by what comes in order; what comes in any order reads none of them -/
def chainFront (Γ : Ctx) (id : Nat) : Option (Bool × Nat) := match alookup Γ.draws id with
  | some m => match Nat.ble 2000000 m with
    | true => some (true, m - 2000000)
    | false => match Nat.ble 1000000 m with
      | true => some (false, m - 1000000)
      | false => none
  | none => none
def isArr : Ob → Bool
  | .arr _ _ => true
  | _ => false
def killArr : List Ob → List Ob
  | [] => []
  | o :: r => (match isArr o with
    | true => .dead
    | false => o) :: killArr r
/-- the variables of before that are stored to among the operations -/
def storeL (st : St) : List Oper → List Nat
  | [] => []
  | o :: r => (match o.op with
    | .store _ a _ => match st.ev a with
      | .ptr L _ => [L]
      | _ => []
    | _ => []) ++ storeL st r
/-- what an address that is made among the operations is the address of -/
def srcOf (t : Nat) : List Oper → Option (Option Operand)
  | [] => none
  | o :: r => match o.dst with
    | some d => bif Nat.beq d t then (match o.op with
      | .move x => some (some x)
      | .nilCheck x => some (some x)
      | .fieldAddr _ x _ => some (some x)
      | _ => some none) else srcOf t r
    | none => srcOf t r
def ptrL (tv : TV) : List Nat := match tv with
  | .ptr L _ => [L]
  | _ => []
def baseL (st : St) (front : List Oper) : Nat → Operand → List Nat
  | 0, _ => []
  | n + 1, .tmp t => match srcOf t front with
    | some (some x) => baseL st front n x
    | some none => []
    | none => ptrL (st.get t)
  | _, _ => []
/-- the variables that are stored to, and those whose addresses are handed to functions in place, among the operations -/
def callL (Γ : Ctx) (st : St) (front : List Oper) : List Oper → List Nat
  | [] => []
  | o :: r => (match o.op with
    | .store _ a _ => baseL st front 9 a
    | .call c => match c.callee with
      | .value (.func g) => match Γ.yf g with
        | some _ => c.args.toList.flatMap fun x => baseL st front 9 x
        | none => []
      | _ => []
    | _ => []) ++ callL Γ st front r
def openL (Γ : Ctx) (st : St) (front : List Oper) : List Nat := storeL st front ++ callL Γ st front front
def killL : List Nat → List Ob → List Ob
  | [], obs => obs
  | L :: r, obs => killL r (obs.set L .dead)
def chainWr (bB : Bool) (S : List Nat) (st : St) (L : Nat) : Bool := Nat.ble st.obs.length L || (bB && (st.wr L && isArr (getOb st.obs L))) || (S.any (Nat.beq L) && st.wr L)
def chainB (bB : Bool) (obs : List Ob) : List Ob := match bB with
  | true => killArr obs
  | false => obs
def chainObs (bB : Bool) (S : List Nat) (obs : List Ob) : List Ob := killL S (chainB bB obs)
def execDrawC {R : Type} (Γ : Ctx) (k : Nat) (bB : Bool) (wrc : Nat → Bool) (obs0 : List Ob) : List Oper → (St → Option R) → St → Option R
  | [], K, st => K st
  | o :: rest, K, st => match o.guard with
    | none => match isAlloc o with
      | some t => match kindOf Γ t with
        | some _ => execDrawC Γ k bB wrc obs0 rest K (st.put o.dst .dead)
        | none => none
      | none => match isStill Γ o with
        | true => Res.runS (evalOp0 Γ (fun _ => false) k o st.ev obs0) fun tv _ => match noS tv with
          | true => execDrawC Γ k bB wrc obs0 rest K (st.put o.dst tv)
          | false => none
        | false => match bB && isBuild Γ o with
          | true => Res.runS (evalOp0 Γ (fun _ => false) k o st.ev obs0) fun tv obs => match tv with
            | .arr L => match getOb obs L, Nat.beq (L + 1) obs.length && Nat.beq L obs0.length with
              | .arr e l, true => execDrawC Γ k bB wrc obs0 rest K (st.put o.dst (.val (.slice e) l))
              | _, _ => none
            | _ => none
          | false => Res.runS (evalOp Γ wrc k o st.ev st.obs) fun tv obs => match noS tv && (!bB || boxesBelow obs.length obs) with
            | true => execDrawC Γ k bB wrc obs0 rest K ((st.with obs).put o.dst tv)
            | false => none
    | some _ => none

/-! ### loops -/
/-- the slots that a piece of code writes -/
def asg : Code → List Nat
  | .region _ ops _ => ops.toList.filterMap (·.dst)
  | .seq a b => asg a ++ asg b
  | .cond _ a b => asg a ++ asg b
  | .block _ c => asg c
  | .loop c => asg c
  | _ => []
def firstRegion : Code → Option Nat
  | .region id _ _ => some id
  | .seq a b => match firstRegion a with
    | some n => some n
    | none => firstRegion b
  | .cond _ a b => match firstRegion a with
    | some n => some n
    | none => firstRegion b
  | .block _ c => firstRegion c
  | .loop c => firstRegion c
  | _ => none
def killAll (ds : List Nat) : List (Nat × TV) → List (Nat × TV)
  | [] => []
  | (s, tv) :: r => bif ds.any (Nat.beq s) then killAll ds r else (s, tv) :: killAll ds r
def setAll : List Nat → List RV → List (Nat × TV) → List (Nat × TV)
  | s :: r, v :: vs, tmps => (s, v.tv) :: setAll r vs tmps
  | _, _, tmps => tmps
/-- the variables that vary: of a slot that holds an address, the cells -/
def openLabel (tv : TV) : Option (List Nat) :=
  match tv with
  | .ptr L _ => some [L]
  | .fn _ caps => some caps
  | _ => none
def openLabels (st : St) : List Nat → Option (List Nat)
  | [] => some []
  | s :: r => match openLabel (st.get s), openLabels st r with
    | some l, some ls => some (l ++ ls)
    | _, _ => none
def counts (obs : List Ob) : List Nat → Option (List (Nat × Nat))
  | [] => some []
  | L :: r => match getOb obs L with
    | .box cs => match counts obs r with
      | some l => some ((L, cs.length) :: l)
      | none => none
    | _ => none

end Go.Proofs.YtbliiipcjbmbiaaGreatDoor.Ev
