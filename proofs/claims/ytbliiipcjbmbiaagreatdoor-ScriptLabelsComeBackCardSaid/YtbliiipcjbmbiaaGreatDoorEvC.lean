/- The small evaluator's rules for code and for functions (this session's own). No condition. -/
import Derived.Test.YtbliiipcjbmbiaaGreatDoorEvE
import Derived.Orders
namespace Go.Proofs.YtbliiipcjbmbiaaGreatDoor.Ev
open Go.RowKit
set_option linter.unusedVariables false

/-- when two results are the same (and whether states are reckoned out at each round of a loop, and lose what only a round's own operations look at) -/
structure EqB (R : Type) where
  frc : Bool
  f : R → R → Bool
  ok : ∀ a b, f a b = true → a = b
def noEq {R : Type} : EqB R := ⟨false, fun _ _ => false, fun _ _ h => nomatch h⟩
structure Ex (R : Type) where
  ex : Nat → St → Option R
  ret : St → Option R
  eq : EqB R
def allSame {R : Type} (f : R → R → Bool) : List (Option R) → Option R
  | [] => none
  | x :: r => match x with
    | some a => match r.all (fun y => match y with
        | some b => f a b
        | none => false) with
      | true => some a
      | false => none
    | none => none
def nextHead : List Oper → Option (Oper × Operand × List Oper)
  | [] => none
  | o :: rest => match o.op, o.guard with
    | .next it false, none => some (o, it, rest)
    | _, _ => none
/-- what may come next of a range over a map -/
def nextOuts (L : Nat) (kk kv : Kd) (m : List (kk.T × kv.T)) (left : List Nat) (obs : List Ob) : List Nat → Option (List (TV × List Ob))
  | [] => some []
  | i :: r => match m[i]?, nextOuts L kk kv m left obs r with
    | some p, some l => some ((.tup [.val .bool true, .val kk p.1, .val kv p.2], obs.set L (.iter kk kv m (left.filter fun j => !Nat.beq j i) (some i))) :: l)
    | _, _ => none
def nextAt (wr : Nat → Bool) (tv : TV) (obs : List Ob) : Option (List (TV × List Ob)) := match tv with
  | .ptr L 0 => match getOb obs L with
    | .iter kk kv m left _ => match wr L && (kk.isVal && kv.isVal) with
      | true => match left with
        | [] => some [(.tup [.val .bool false], obs)]
        | i :: l => nextOuts L kk kv m (i :: l) obs (i :: l)
      | false => none
    | _ => none
  | _ => none
def Ex.add {R : Type} (E : Ex R) (id : Nat) (K : St → Option R) : Ex R := ⟨fun j st => bif Nat.beq j id then K st else E.ex j st, E.ret, E.eq⟩
def St.locks (st : St) (lk : Nat) (op : List Nat) : St := ⟨st.n, st.tmps, st.obs, lk, op⟩
def Ex.locks {R : Type} (E : Ex R) (lk : Nat) (op : List Nat) : Ex R := ⟨fun j st => E.ex j (st.locks lk op), fun st => E.ret (st.locks lk op), E.eq⟩
/-- what a loop begins with: the open variables, the shapes, the slots and the variables that stay -/
structure LB where
  vary : List Nat
  cnts : List (Nat × Nat)
  ss : List SV
  n : Nat
  tmps : List (Nat × TV)
  obs : List Ob
def LB.labels (B : LB) : List Nat := B.cnts.map (·.1)
def LB.head (B : LB) (x : XT B.ss) : St :=
  ⟨B.n, setAll B.vary (unpack B.ss x B.obs).1 B.tmps, openSet B.cnts ((unpack B.ss x B.obs).1.drop B.vary.length) (unpack B.ss x B.obs).2, B.obs.length, B.labels⟩
def LB.srcs (B : LB) (st : St) : Option (List TV) :=
  match srcObs B.cnts st.obs with
  | some b => some (B.vary.map (fun s => st.get s) ++ b)
  | none => none
def LB.pack (B : LB) (st : St) : Option (XT B.ss) :=
  match B.srcs st with
  | some src => match leave st.wr src st.obs with
    | some _ => Ev.pack B.ss src st.obs
    | none => none
  | none => none
def loopBase (Γ : Ctx) (c : Code) (st : St) : Option LB :=
  match firstRegion c with
  | none => none
  | some id => match alookup Γ.loops id with
    | none => none
    | some (vary, opens) => match openLabels st opens with
      | none => none
      | some labels => match allWr st.wr labels && nodupB labels with
        | false => none
        | true => match counts st.obs labels with
          | none => none
          | some cnts => match srcObs cnts st.obs with
            | none => none
            | some b => match shapesOf (vary.map (fun s => st.get s) ++ b) st.obs with
              | none => none
              | some ss => match leave st.wr (vary.map (fun s => st.get s) ++ b) st.obs with
                | none => none
                | some ob0 => some ⟨vary, cnts, ss, st.n, killAll (asg c ++ vary) st.tmps, ob0⟩

/-- where ways come together: what is handed on there -/
def isJoin (Γ : Ctx) (b : Code) : Bool := match firstRegion b with
  | none => false
  | some id => (alookup Γ.joins id).isSome
def joinBase (Γ : Ctx) (a b : Code) (st : St) : Option (LB × LB) :=
  match firstRegion b with
  | none => none
  | some id => match alookup Γ.joins id with
    | none => none
    | some (vin, vout, sout, opens) => match openLabels st opens with
      | none => none
      | some labels => match allWr st.wr labels && nodupB labels with
        | false => none
        | true => match counts st.obs labels with
          | none => none
          | some cnts => match srcObs cnts st.obs with
            | none => none
            | some b => match shapesOf (vin.map (fun s => st.get s) ++ b) st.obs with
              | none => none
              | some ss => match shapesOf b st.obs with
                | none => none
                | some sb => match leave st.wr (vin.map (fun s => st.get s) ++ b) st.obs with
                  | none => none
                  | some ob0 => some (⟨vin, cnts, ss, st.n, killAll (asg a ++ vin) st.tmps, ob0⟩, ⟨vout, cnts, sout ++ sb, st.n, killAll (asg a ++ vout) st.tmps, ob0⟩)

/-- how many operations of a region come in any order, before the rest -/
def frontOf (Γ : Ctx) (id : Nat) (ops : Array Oper) : Nat := match alookup Γ.draws id with
  | some m => m
  | none => ops.toList.length
/-- what slots hold, of a variable's address what stands in it -/
def boxTVs : Ob → List TV
  | .box cs => cs.map RV.tv
  | _ => []
def frzTVs (st : St) : List Nat → List TV
  | [] => []
  | s :: r => (match st.get s with
    | .ptr L _ => boxTVs (getOb st.obs L)
    | tv => [tv]) ++ frzTVs st r
/-- what is only read from a loop on -/
def freezeFor (Γ : Ctx) (c : Code) (st : St) : Option St :=
  match firstRegion c with
  | none => none
  | some id => match alookup Γ.frees id with
    | none => some st
    | some fz => match frzAll st.wr (frzTVs st fz) st.obs with
      | none => none
      | some obs => some (st.with obs)
def freezeReg (Γ : Ctx) (id : Nat) (st : St) : Option St :=
  match alookup Γ.frees id with
  | none => some st
  | some fz => match frzAll st.wr (frzTVs st fz) st.obs with
    | none => none
    | some obs => some (st.with obs)

/-- rounds of a loop, one after the other, at most n -/
def unrollN {R : Type} (body : (St → Option R) → St → Option R) : Nat → St → Option R
  | 0, _ => none
  | n + 1, st => body (fun st1 => unrollN body n st1) st
/-- the slots that are written by other operations than 'assign', and not read earlier in the text -/
def scanOps : List Oper → List Nat × List Nat → List Nat × List Nat
  | [], s => s
  | o :: r, (wrt, early) => scanOps r (match o.dst with
      | some d => match o.op with
        | .assign _ => wrt
        | _ => d :: wrt
      | none => wrt, o.op.operands.toList.filterMap (fun x => match x with
      | .tmp t => bif wrt.any (Nat.beq t) then none else some t
      | _ => none) ++ early)
def scanC : Code → List Nat × List Nat → List Nat × List Nat
  | .region _ ops _, s => scanOps ops.toList s
  | .seq a b, s => scanC b (scanC a s)
  | .cond _ a b, s => scanC b (scanC a s)
  | .block _ c, s => scanC c s
  | .loop c, s => scanC c s
  | _, s => s
def temps (c : Code) : List Nat := match scanC c ([], []) with
  | (wrt, early) => wrt.filter fun t => !early.any (Nat.beq t)
def St.lose (st : St) (ds : List Nat) : St := ⟨st.n, killAll ds st.tmps, st.obs, st.lk, st.op⟩
def frcRound {R : Type} (b : Bool) (c : Code) (st : St) (K : St → Option R) : Option R := match b with
  | true => (st.lose (temps c)).ff K
  | false => K st
/-- loops of which no hint tells what varies in them are taken round by round -/
def unrolls (Γ : Ctx) (c : Code) : Bool := match firstRegion c with
  | none => true
  | some id => match alookup Γ.loops id with
    | none => true
    | some _ => false
/-- all orders in which a region's operations may come; those that look at slots alone come first -/
def pureOp (Γ : Ctx) (st : St) (o : Oper) : Bool := (match o.guard with
    | none => true
    | some _ => false) && !isIn o.dst Γ.vals && match o.op with
  | .move _ => true
  | .assign _ => true
  | .extract _ _ => true
  | .fieldAddr _ x _ => match st.ev x with
    | .ptr _ _ => true
    | _ => false
  | .nilCheck _ => true
  | _ => false
def pureAt (Γ : Ctx) (st : St) (ops : Array Oper) (i : Nat) : Bool := match ops[i]? with
  | some o => pureOp Γ st o
  | none => false
def execGen {R : Type} (Γ : Ctx) (k : Nat) (ops : Array Oper) (eq : EqB R) (K : St → Option R) : Nat → Array Bool → St → Option R
  | 0, listed, st => match Region.ready .any ops listed with
    | [] => K st
    | _ :: _ => none
  | n + 1, listed, st => match Region.ready .any ops listed with
    | [] => K st
    | i0 :: l => match (i0 :: l).find? (fun i => pureAt Γ st ops i && Region.free .any ops listed i) with
      | some i => match ops[i]? with
        | some o => execOps Γ k ops [o] (fun st1 => execGen Γ k ops eq K n (listed.setIfInBounds i true) st1) st
        | none => none
      | none => allSame eq.f ((i0 :: l).map fun i => match ops[i]? with
        | some o => execOps Γ k ops [o] (fun st1 => execGen Γ k ops eq K n (listed.setIfInBounds i true) st1) st
        | none => none)
def isGen (Γ : Ctx) (id : Nat) : Bool := match alookup Γ.draws id with
  | some m => Nat.ble 9000000 m
  | none => false
def exec {R : Type} (Γ : Ctx) (k : Nat) : Code → Ex R → (St → Option R) → St → Option R
  | .skip, _, K, st => K st
  | .region id ops draw, E, K, st0 => match draw with
    | false => match nextHead ops.toList with
      | none => execOps Γ k ops ops.toList K st0
      | some n => match nextAt st0.wr (st0.ev n.2.1) st0.obs with
        | none => none
        | some l => allSame E.eq.f (l.map fun p => p.1.fc fun tv => obF p.2 fun obs => execOps Γ k ops n.2.2 K ((st0.with obs).put n.1.dst tv))
    | true => match isGen Γ id with
     | true => match Region.noSelect ops with
      | true => execGen Γ k ops E.eq K ops.size (Array.replicate ops.size false) st0
      | false => none
     | false => match freezeReg Γ id st0 with
     | none => none
     | some st => match chainFront Γ id with
      | some (bB, m) => match drawsOK true ops st.n m && chainsOK Γ bB none 0 (ops.toList.take m) && Nat.ble st.lk st.obs.length && (!bB || boxesBelow st.obs.length st.obs) with
        | true => execDrawC Γ k bB (chainWr bB (openL Γ st (ops.toList.take m)) st) (chainObs bB (openL Γ st (ops.toList.take m)) st.obs) (ops.toList.take m) (fun st1 => bindA Γ (ops.toList.take m) (fun st2 => execOps Γ k ops (ops.toList.drop m) K st2) st1) st
        | false => none
      | none => match drawsOK false ops st.n (frontOf Γ id ops) with
        | true => match (ops.toList.take (frontOf Γ id ops)).any (fun o => (isAlloc o).isSome) with
          | false => execDraw false Γ k ops (ops.toList.take (frontOf Γ id ops)) (fun st1 => execOps Γ k ops (ops.toList.drop (frontOf Γ id ops)) K st1) st
          | true => execDraw true Γ k ops (ops.toList.take (frontOf Γ id ops)) (fun st1 => bindA Γ (ops.toList.take (frontOf Γ id ops)) (fun st2 => execOps Γ k ops (ops.toList.drop (frontOf Γ id ops)) K st2) st1) st
        | false => none
  | .seq a b, E, K, st => match isJoin Γ b with
    | false => exec Γ k a E (fun st1 => exec Γ k b E K st1) st
    | true => match joinBase Γ a b st with
      | none => none
      | some (D, D2) => match D.pack st with
        | none => none
        | some x0 => jn (X := XT D2.ss) (fun next => exec Γ k a (E.locks st.lk st.op) (fun st1 => match D2.pack st1 with
          | some x1 => next x1
          | none => none) (D.head x0)) (fun x => exec Γ k b E K ((D2.head x).locks st.lk st.op))
  | .cond c x y, E, K, st => match st.ev c with
    | .val .bool t => cnd t (exec Γ k x E K st) (exec Γ k y E K st)
    | _ => none
  | .block id c, E, K, st => exec Γ k c (E.add id K) K st
  | .exit id, E, _, st => E.ex id st
  | .ret, E, _, st => E.ret st
  | .loop c, E, K, st0 => match unrolls Γ c with
   | true => unrollN (fun next st => frcRound E.eq.frc c st fun st => exec Γ k c E next st) k st0
   | false => match freezeFor Γ c st0 with
    | none => none
    | some st => match loopBase Γ c st with
      | none => none
      | some B => match B.pack st with
        | none => none
        | some x0 => loopN k (fun next x => exec Γ k c (E.locks st.lk st.op) (fun st1 => match B.pack st1 with
          | some x1 => next x1
          | none => none) (B.head x)) x0
  | _, _, _, _ => none

/-! ### functions -/
def resTV (Γ : Ctx) (st : St) : ResultVar → Option (TV × List Ob)
  | .tmp t => some (st.get t, st.obs)
  | .cell a t => (evLoad Γ st.wr t (st.get a) st.obs).run some
def resTVs (Γ : Ctx) : List ResultVar → St → Option (List TV × St)
  | [], st => some ([], st)
  | r :: rs, st => match resTV Γ st r with
    | some (tv, obs) => match resTVs Γ rs (st.with obs) with
      | some (l, st1) => some (tv :: l, st1)
      | none => none
    | none => none
/-- the own arrays among the results are given away -/
def Lm.pm : Lm → Pm
  | .val k => .val k
  | .own e => .own e
def giveAway (wr : Nat → Bool) (rs : List Lm) (tvs : List TV) (obs : List Ob) : Option (List Ob) := moved wr (rs.map Lm.pm) tvs obs
def retOne (o : Lm) (tv : TV) (obs0 obs : List Ob) : Option o.T :=
  match o with
  | .val k => toVal k tv obs
  | .own e => match tv with
    | .arr L => match getOb obs0 L with
      | .arr e' l => Kd.cast (.slice e') (.slice e) l
      | _ => none
    | .nil => some []
    | .nilk _ => some []
    | _ => none
def retAll : (os : List Lm) → List TV → List Ob → List Ob → Option (OT os)
  | [], [], _, _ => some ()
  | [o], [tv], obs0, obs => retOne o tv obs0 obs
  | o :: p :: os, tv :: tvs, obs0, obs => match retOne o tv obs0 obs, retAll (p :: os) tvs obs0 obs with
    | some x, some xs => some (x, xs)
    | _, _ => none
  | _, _, _, _ => none
def finish (Γ : Ctx) (rs : List Lm) (results : List ResultVar) (st : St) : Option (OT rs) :=
  match resTVs Γ results st with
  | some (tvs, st1) => match giveAway st1.wr rs tvs st1.obs with
    | some obs => retAll rs tvs st1.obs obs
    | none => none
  | none => none
def enterOne : (p : Pm) → p.T → List Ob → TV × List Ob
  | .val k, x, obs => (.val k x, obs)
  | .own e, l, obs => (.arr obs.length, obs ++ [.arr e l])
  | .rptr k, x, obs => (.rop k x, obs)
  | .fnv a r, f, obs => (.fnv a r f, obs)
  | .nil e, _, obs => (.nilk e, obs)
def enterAll : (ps : List Pm) → PT ps → List Ob → List TV × List Ob
  | [], _, obs => ([], obs)
  | p :: ps, x, obs => match enterOne p x.1 obs with
    | (tv, obs1) => match enterAll ps x.2 obs1 with
      | (tvs, obs2) => (tv :: tvs, obs2)
def number : Nat → List TV → List (Nat × TV)
  | _, [] => []
  | i, tv :: r => (i, tv) :: number (i + 1) r
def start (ps : List Pm) (ntmps : Nat) (x : PT ps) : St :=
  ⟨ntmps, number 0 (enterAll ps x []).1, (enterAll ps x []).2, 0, []⟩
def runFn (Γ : Ctx) (k : Nat) (ps : List Pm) (rs : List Lm) (ntmps : Nat) (results : List ResultVar) (c : Code) (x : PT ps) : Option (OT rs) :=
  exec Γ k c ⟨fun _ _ => none, finish Γ rs results, noEq⟩ (finish Γ rs results) (start ps ntmps x)

/-! ### functions that change variables of their caller -/
def xtvs : List XPm → List TV → List TV
  | [], _ => []
  | .pl _ :: ps, tv :: r => tv :: xtvs ps r
  | .pl _ :: ps, [] => .dead :: xtvs ps []
  | .bx i :: ps, r => .ptr i 0 :: xtvs ps r
  | .clo g is :: ps, r => .fn g is :: xtvs ps r
def xdead : List Nat → List Ob
  | [] => []
  | _ :: r => .dead :: xdead r
def xobs (cs : List Nat) (ss : List SV) (x : XT ss) : List Ob := openSet (cnts0 0 cs) (unpack ss x (xdead cs)).1 (unpack ss x (xdead cs)).2
def xstart (cs : List Nat) (ss : List SV) (ps : List XPm) (ntmps : Nat) (x : XT ss) (xs : PT (plains ps)) : St :=
  ⟨ntmps, number 0 (xtvs ps (enterAll (plains ps) xs (xobs cs ss x)).1), (enterAll (plains ps) xs (xobs cs ss x)).2, 0, []⟩
def xfinish (Γ : Ctx) (cs : List Nat) (ss : List SV) (rs : List Lm) (results : List ResultVar) (st : St) : Option (OT rs × XT ss) :=
  match resTVs Γ results st with
  | some (tvs, st1) => match giveAway st1.wr rs tvs st1.obs with
    | some obs2 => match srcObs (cnts0 0 cs) obs2 with
      | some src => match leave st1.wr src obs2, pack ss src obs2 with
        | some obs3, some x => match retAll rs tvs st1.obs (killObs ((cnts0 0 cs).map (·.1)) obs3) with
          | some y => some (y, x)
          | none => none
        | _, _ => none
      | none => none
    | none => none
  | none => none
def runX (Γ : Ctx) (k : Nat) (cs : List Nat) (ss : List SV) (ps : List XPm) (rs : List Lm) (ntmps : Nat) (results : List ResultVar) (c : Code) (x : XT ss) (xs : PT (plains ps)) : Option (OT rs × XT ss) :=
  exec Γ k c ⟨fun _ _ => none, xfinish Γ cs ss rs results, noEq⟩ (xfinish Γ cs ss rs results) (xstart cs ss ps ntmps x xs)

end Go.Proofs.YtbliiipcjbmbiaaGreatDoor.Ev
