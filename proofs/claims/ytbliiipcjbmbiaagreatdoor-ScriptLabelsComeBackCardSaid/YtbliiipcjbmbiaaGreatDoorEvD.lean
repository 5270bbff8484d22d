/- The operations on plain data in which the small evaluator's results are told (this session's own). No condition. -/
import Derived.Calls
import Derived.LoopN
import Derived.Orders
import Derived.Below
import Derived.MapKept
namespace Go.Proofs.YtbliiipcjbmbiaaGreatDoor.Ev
open Go.RowKit
set_option linter.unusedVariables false
def bnd {α β : Type} (m : Option α) (f : α → Option β) : Option β := m.bind f
def cnd {α : Type} (c : Bool) (a b : α) : α := bif c then a else b
def loopN {X R : Type} (n : Nat) (step : (X → Option R) → X → Option R) : X → Option R := Nat.rec (fun _ => none) (fun _ r x => step r x) n
def jn {X R : Type} (f : (X → Option R) → Option R) (g : X → Option R) : Option R := f g
def at? {α : Type} (l : List α) (i : Int) : Option α := if 0 ≤ i then l[i.toNat]? else none
def inb (n : Int) (i : Int) : Option Unit := if 0 ≤ i ∧ i < n then some () else none
def gt {α : Type} (d : α) (l : List α) (i : Int) : α := l.getD i.toNat d
def clr {α : Type} (d : α) (l : List α) (a b : Int) : List α := (List.range l.length).map fun i => if a.toNat ≤ i ∧ i < b.toNat then d else l.getD i d
def setAt {α : Type} (l : List α) (i : Int) (x : α) : List α := l.set i.toNat x
def len {α : Type} (l : List α) : Int := l.length
def olen (n : Nat) : Int := n
def lenN {α : Type} (l : List α) : Nat := l.length
def mapL {α β : Type} (f : α → β) (l : List α) : List β := l.map f
def ssz (s : ByteArray) : Int := s.size
def bt (s : ByteArray) (i : Int) : Int := if h : i.toNat < s.size then ((s[i.toNat]'h).toNat : Int) else 0
def bt? (s : ByteArray) (i : Int) : Option Int := if 0 ≤ i ∧ i < s.size then some (bt s i) else none
def sub? (s : ByteArray) (lo hi : Int) : Option ByteArray := if 0 ≤ lo ∧ lo ≤ hi ∧ hi ≤ s.size then some (s.extract lo.toNat hi.toNat) else none
def cut? {α : Type} (l : List α) (lo hi : Int) : Option (List α) := if 0 ≤ lo ∧ lo ≤ hi ∧ hi ≤ l.length then some ((l.take hi.toNat).drop lo.toNat) else none
def app? {α : Type} (bytes : Nat) (l r : List α) : Option (List α) := if (l.length + r.length) * (max bytes 1) ≤ 140737488355328 then some (l ++ r) else none
def mk? {α : Type} (bytes : Nat) (d : α) (n c : Int) : Option (List α) := if n = c ∧ 0 ≤ n ∧ n.toNat * (max bytes 1) ≤ 140737488355328 then some (List.replicate n.toNat d) else none
def cat? (a b : ByteArray) : Option ByteArray := if a.size + b.size ≤ 9223372036854775807 then some (a ++ b) else none
def bytesOf (s : ByteArray) : List Int := s.data.toList.map fun b => (b.toNat : Int)
def strOf (l : List Int) : ByteArray := ⟨(l.map fun n => UInt8.ofNat n.toNat).toArray⟩
def mget? {κ β : Type} (eq : κ → κ → Bool) (m : List (κ × β)) (k : κ) : Option β := (m.find? fun p => eq k p.1).map (·.2)
def mput {κ β : Type} (eq : κ → κ → Bool) (m : List (κ × β)) (k : κ) (v : β) : List (κ × β) := match m.findIdx? (fun p => eq k p.1) with | some i => m.modify i (fun p => (p.1, v)) | none => m ++ [(k, v)]
def orD {α : Type} (m : Option α) (d : α) : α := m.getD d
def isS {α : Type} (m : Option α) : Bool := m.isSome
def iwr (j : IntKind) (a : Int) : Int := j.wrap a
def iadd (j : IntKind) (a b : Int) : Int := j.wrap (a + b)
def inc (n : Int) : Int := n + 1
def isub (j : IntKind) (a b : Int) : Int := j.wrap (a - b)
def imul (j : IntKind) (a b : Int) : Int := j.wrap (a * b)
def iquo? (j : IntKind) (a b : Int) : Option Int := if b = 0 then none else some (j.wrap (a.tdiv b))
def irem? (j : IntKind) (a b : Int) : Option Int := if b = 0 then none else some (a.tmod b)
def iand (j : IntKind) (a b : Int) : Int := j.wrap (BitVec.ofInt j.bits a &&& BitVec.ofInt j.bits b).toNat
def ior (j : IntKind) (a b : Int) : Int := j.wrap (BitVec.ofInt j.bits a ||| BitVec.ofInt j.bits b).toNat
def ixor (j : IntKind) (a b : Int) : Int := j.wrap (BitVec.ofInt j.bits a ^^^ BitVec.ofInt j.bits b).toNat
def iandn (j : IntKind) (a b : Int) : Int := j.wrap (BitVec.ofInt j.bits a &&& ~~~ BitVec.ofInt j.bits b).toNat
def ishl? (j : IntKind) (a b : Int) : Option Int := if b < 0 then none else some (j.wrap (a * 2 ^ (min b.toNat j.bits)))
def ishr? (j : IntKind) (a b : Int) : Option Int := if b < 0 then none else some (a.fdiv (2 ^ (min b.toNat j.bits)))
def imax (a b : Int) : Int := if b > a then b else a
def imin (a b : Int) : Int := if b < a then b else a
def ieq (a b : Int) : Bool := a == b
def ine (a b : Int) : Bool := a != b
def ilt (a b : Int) : Bool := decide (a < b)
def ile (a b : Int) : Bool := decide (a ≤ b)
def igt (a b : Int) : Bool := decide (a > b)
def ige (a b : Int) : Bool := decide (a ≥ b)
def seq (a b : ByteArray) : Bool := a.toList == b.toList
def sne (a b : ByteArray) : Bool := !(a.toList == b.toList)
def slt (a b : ByteArray) : Bool := Op.bytesLess a.toList b.toList
def sle (a b : ByteArray) : Bool := Op.bytesLess a.toList b.toList || a.toList == b.toList
def sgt (a b : ByteArray) : Bool := !(Op.bytesLess a.toList b.toList || a.toList == b.toList)
def sge (a b : ByteArray) : Bool := !(Op.bytesLess a.toList b.toList)
def beq2 (a b : Bool) : Bool := a == b
def bne2 (a b : Bool) : Bool := !(a == b)
def bnot (a : Bool) : Bool := !a
def keq (a b : ByteArray) : Bool := a == b
end Go.Proofs.YtbliiipcjbmbiaaGreatDoor.Ev
