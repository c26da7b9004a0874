/-
  CxE: a deterministic interpreter of the model's code over an abstract heap ('E'): text order in each region, each grown slice in a new block of just its length, no tape.
  What it answers is tied to the model's own runs by the theorems of CxS..: this file holds the definitions alone.
-/
import Derived.WalkKit
import Derived.RangeFuncLeaves
set_option linter.all false
namespace Go.Cx

inductive Res (α : Type) where
  | ok (a : α)
  | no (why : String)

def Res.bind {α β : Type} (x : Res α) (f : α → Res β) : Res β :=
  match x with
  | .ok a => f a
  | .no s => .no s

def need {α : Type} (x : Option α) (why : String) : Res α :=
  match x with
  | some a => .ok a
  | none => .no why

def sure {α : Type} (b : Bool) (why : String) (k : Res α) : Res α :=
  match b with
  | true => k
  | false => .no why

/-! ### A trie of numbers -/
inductive Tr (α : Type) where
  | nil
  | node (v : Option α) (l r : Tr α)

def Tr.get {α : Type} : Tr α → Nat → Option α
  | .nil, _ => none
  | .node v _ _, 0 => v
  | .node _ l r, n + 1 => match n % 2 with
    | 0 => l.get (n / 2)
    | _ => r.get (n / 2)

def Tr.set {α : Type} : Nat → Tr α → Nat → Option α → Tr α
  | 0, t, _, _ => t
  | _ + 1, .nil, 0, x => .node x .nil .nil
  | _ + 1, .node _ l r, 0, x => .node x l r
  | f + 1, .nil, n + 1, x => match n % 2 with
    | 0 => .node none (Tr.set f .nil (n / 2) x) .nil
    | _ => .node none .nil (Tr.set f .nil (n / 2) x)
  | f + 1, .node v l r, n + 1, x => match n % 2 with
    | 0 => .node v (Tr.set f l (n / 2) x) r
    | _ => .node v l (Tr.set f r (n / 2) x)

def Tr.fill {α : Type} : Nat → List α → Tr α → Tr α
  | _, [], t => t
  | i, v :: r, t => Tr.fill (i + 1) r (t.set (i + 1) i (some v))

/-- What lies in a block. 'opn': a slice grew it: the model's own block may be longer. -/
inductive Ob where
  | cells (c : Tr Value) (n : Nat) (e : TypeId) (lo hi : Nat) (opn : Bool)
  | map (es : Array MapEntry) (clock : Nat)
  | stringIter (s : ByteArray) (pos : Nat)
  | mapIter (m : Option Nat) (since : Nat) (seen : Array Nat) (stepped : Nat)
  | loop (l : Loop)
  | deferred (open_ : Bool)
  | chunks (n : Nat) (e : TypeId) (content : List Value)

structure Hp where
  t : Tr Ob
  next : Nat

def Hp.get (σ : Hp) (b : Nat) : Option Ob := σ.t.get b
def Hp.put (σ : Hp) (b : Nat) (x : Option Ob) : Hp := ⟨σ.t.set (b + 1) b x, σ.next⟩
def Hp.alloc (σ : Hp) (o : Ob) : Hp := ⟨σ.t.set (σ.next + 1) σ.next (some o), σ.next + 1⟩
def Hp.kill (σ : Hp) (b : Nat) : Hp := σ.put b none
def row (l : List Value) (e : TypeId) (opn : Bool) : Ob := .cells (Tr.fill 0 l .nil) l.length e 0 0 opn

/-! ### Values -/
/-- No address stands in it. -/
def flat : Nat → Value → Bool
  | _, .bool _ | _, .int .. | _, .string _ | _, .nilFunc | _, .nilIface | _, .pointer none | _, .map none | _, .slice none _ _ => true
  | n + 1, .iface _ v => flat n v
  | n + 1, .agg cs => cs.toList.all (flat n)
  | n + 1, .tuple cs => !cs.toList.isEmpty && cs.toList.all (flat n)
  | _, _ => false

/-- Its shape is known. -/
def known : Value → Bool
  | .tuple _ => false
  | _ => true

def oneCell : Value → Bool
  | .agg _ | .tuple _ => false
  | _ => true

def fnEq : Fn → Fn → Bool
  | .func f, .func g => f == g
  | .method a, .method b => a == b
  | .yield a, .yield b => a == b
  | .methodOf t a, .methodOf u b => t == u && a == b
  | .via t p f b, .via u q g c => decide (t = u) && decide (p = q) && decide (f = g) && (b == c)
  | _, _ => false

def allTwo (f : Value → Value → Bool) : List Value → List Value → Bool
  | [], [] => true
  | x :: xs, y :: ys => f x y && allTwo f xs ys
  | _, _ => false

/-- The same value, by sight. -/
def veq : Nat → Value → Value → Bool
  | _, .bool a, .bool b => a == b
  | _, .int j a, .int k b => decide (j = k) && decide (a = b)
  | _, .string a, .string b => decide (a.data.toList = b.data.toList)
  | _, .pointer a, .pointer b => decide (a = b)
  | _, .slice a l c, .slice b m d => decide (a = b) && decide (l = m) && decide (c = d)
  | _, .map a, .map b => decide (a = b)
  | _, .chan a, .chan b => decide (a = b)
  | n + 1, .func f x c, .func g y d => fnEq f g && allTwo (veq n) x.toList y.toList && allTwo (veq n) c.toList d.toList
  | _, .nilFunc, .nilFunc => true
  | n + 1, .iface t v, .iface u w => decide (t = u) && veq n v w
  | _, .nilIface, .nilIface => true
  | n + 1, .agg a, .agg b => allTwo (veq n) a.toList b.toList
  | n + 1, .tuple a, .tuple b => allTwo (veq n) a.toList b.toList
  | _, _, _ => false

/-! ### What needs no world -/
def prun {α : Type} (P : Program) : Sem α → Option α
  | .pure a => some a
  | .program k => prun P (k P)
  | .mark _ k => prun P k
  | _ => none

/-- What is not known: it stands for any value. -/
def unk : Value := .tuple #[.tuple #[]]

/-- A value that has the name 'b'. -/
def symv (b : Nat) : Value := .chan (some b)

/-- What is known of names: their values; what operations on them yield; the bytes of a named text; keys that are unlike; how bytes compare. -/
class Tab (P : Program) where
  nm : Nat → Option Value
  fact : Op → List Value → Option Value
  text : Nat → Option (List Value)
  apart : TypeId → Value → List Value → Bool
  cmp : List Value → List Value → Option Int
  short : Nat → Bool
  byte : Nat → Bool
  join : List Value → Option Value

/-- The temporaries: so many. -/
structure Fr where
  t : Tr Value
  n : Nat

def Fr.at (fr : Fr) (i : Nat) : Value := match fr.t.get i with
  | some v => v
  | none => undef

def Fr.put (fr : Fr) (i : Nat) (v : Value) : Fr := match Nat.blt i fr.n with
  | true => ⟨fr.t.set (i + 1) i (some v), fr.n⟩
  | false => fr

def Fr.list (fr : Fr) : List Value := (List.range fr.n).map fr.at

def Fr.fill : Nat → List Value → Fr → Fr
  | _, [], fr => fr
  | i, v :: r, fr => Fr.fill (i + 1) r (fr.put i v)

def Fr.of (l : List Value) (n : Nat) : Fr := Fr.fill 0 l ⟨.nil, n⟩

def constV : Value → Value
  | .int k n => .int k n
  | .bool b => .bool b
  | .string s => .string s
  | v => match flat 8 v with
    | true => v
    | false => unk

/-- So many package-level variables are known. -/
def gl : Nat := 2

def ev (fr : Fr) : Operand → Value
  | .tmp t => fr.at t
  | .const v => constV v
  | .global g => match Nat.blt g gl with
    | true => .pointer (some ⟨g, 0, none⟩)
    | false => unk
  | .func f => .func (.func f) #[] #[]

def putFr (fr : Fr) (dst : Option Tmp) (v : Value) : Fr :=
  match dst with
  | some d => fr.put d v
  | none => fr

/-! ### The heap -/
def szOf (P : Program) (t : TypeId) : Res Nat := need ((P.info? t).map (·.size)) "size"
def isAgg (P : Program) (t : TypeId) : Res Bool :=
  match P.underlying t with
  | some (.struct _) | some (.array _ _) => .ok true
  | some _ => .ok false
  | none => .no "type"
def zeroOf (P : Program) (t : TypeId) : Res Value :=
  (need ((P.info? t).bind (·.zero)) "zero").bind fun z => sure (flat 8 z) "zero's form" (.ok z)

def gets (c : Tr Value) : Nat → Nat → Res (List Value)
  | _, 0 => .ok []
  | i, n + 1 => match c.get i with
    | some v => (gets c (i + 1) n).bind fun l => .ok (v :: l)
    | none => .no "cells: none"

def cellsAt (σ : Hp) (a : Addr) (n : Nat) : Res (List Value) :=
  match a.spot, σ.get a.block with
  | none, some (.cells c m _ _ _ _) => sure (Nat.ble (a.off + n) m) "cells: out of the block" (gets c a.off n)
  | _, _ => .no "cells: no such block"

def setCells (σ : Hp) (a : Addr) (vs : List Value) : Res Hp :=
  match vs, a.spot, σ.get a.block with
  | [], _, _ => .ok σ
  | v :: r, none, some (.cells c m e lo hi opn) =>
    sure (Nat.ble (a.off + (v :: r).length) m && (Nat.ble hi a.off || Nat.ble (a.off + (v :: r).length) lo || Nat.ble hi lo) && (v :: r).all oneCell) "store: out of the block, frozen, or no cells"
      (.ok (σ.put a.block (some (.cells (Tr.fill a.off (v :: r) c) m e lo hi opn))))
  | _, _, _ => .no "store: no such block"

def addrOf : Value → Res Addr
  | .pointer (some a) => .ok a
  | _ => .no "an address"

def load (P : Program) (σ : Hp) (t : TypeId) (x : Value) : Res Value :=
  (addrOf x).bind fun a => (isAgg P t).bind fun g =>
    match g with
    | true => (szOf P t).bind fun n => (cellsAt σ a n).bind fun vs => .ok (.agg vs.toArray)
    | false => (cellsAt σ a 1).bind fun vs => match vs with
      | [v] => .ok v
      | _ => .no "load"

def store (P : Program) (σ : Hp) (t : TypeId) (x v : Value) : Res Hp :=
  (addrOf x).bind fun a => (szOf P t).bind fun n => sure (decide (v.cells.size = n)) "store: size" (setCells σ a v.cells.toList)

def elemT (P : Program) (t : TypeId) : Res TypeId :=
  match P.underlying t with
  | some (.slice e) => .ok e
  | _ => .no "slice type"

def asI : Value → Res Int
  | .int _ n => .ok n
  | _ => .no "int"

def lenV : Value → Res Nat
  | .slice _ n _ => .ok n
  | .string s => .ok s.size
  | _ => .no "len"

def firstOf (σ : Hp) (size n : Nat) : Value → Res (List Value)
  | .slice (some a) _ _ => match n * size with
    | 0 => .ok []
    | k + 1 => cellsAt σ a (k + 1)
  | .slice none _ _ => .ok []
  | .string s => .ok ((s.data.toList.take n).map fun b => .int .u8 b.toNat)
  | _ => .no "cells of what?"

def append (P : Program) (σ : Hp) (argTypes : Array TypeId) (s x : Value) : Res (Value × Hp) :=
  match argTypes[0]?, argTypes[1]?, s with
  | some st, some xt, .slice base l cap =>
    match P.underlying xt with
    | some (.int _) => .no "append: of a make"
    | none => .no "append: type"
    | some _ =>
    (elemT P st).bind fun e => (szOf P e).bind fun size => (need ((P.info? e).map (·.bytes)) "bytes").bind fun bytes => (zeroOf P e).bind fun z => (lenV x).bind fun n =>
    (firstOf σ size n x).bind fun new =>
    sure (decide (new.length = n * size) && decide (0 < size) && decide (z.cells.size = size) && new.all oneCell) "append: sizes" <|
    match decide (l + n ≤ cap) with
    | true => match base with
      | some a => sure (σ.get a.block).isSome "append: no such block" ((setCells σ (a.add (l * size)) new).bind fun σ' => .ok (.slice base (l + n) cap, σ'))
      | none => sure new.isEmpty "append: nil" (.ok (.slice none (l + n) cap, σ))
    | false => (firstOf σ size l s).bind fun old =>
      sure (decide (old.length = l * size) && decide ((8 * (l + n) + 4096) * bytes ≤ 2 ^ 47) && decide (0 < bytes)) "append: too large" <|
      match base with
      | none => sure (decide (l = 0)) "append: nil" (.ok (.slice (some ⟨σ.next, 0, none⟩) (l + n) (l + n), σ.alloc (row (old ++ new) e true)))
      | some a => match σ.get a.block with
        | some (.cells _ _ _ _ _ false) => .ok (.slice (some ⟨σ.next, 0, none⟩) (l + n) (l + n), σ.alloc (row (old ++ new) e true))
        | some (.cells _ m e' lo hi true) =>
          sure (decide (a.off = 0) && a.spot.isNone && decide (cap * size = m) && decide (e' = e) && decide (0 < cap) && decide (lo = 0) && decide (hi = 0)) "append: inside a grown block"
            (.ok (.slice (some ⟨σ.next, 0, none⟩) (l + n) (l + n), (σ.kill a.block).alloc (row (old ++ new) e true)))
        | _ => .no "append: no such block"
  | _, _, _ => .no "append: operands"

def copy (P : Program) (σ : Hp) (argTypes : Array TypeId) (d s : Value) : Res (Value × Hp) :=
  match argTypes[0]?, d with
  | some t, .slice base l _ => (elemT P t).bind fun e => (szOf P e).bind fun size => (lenV s).bind fun m =>
    (firstOf σ size (Nat.min m l) s).bind fun cs =>
    sure (decide (cs.length = Nat.min m l * size)) "copy: cells" <|
    match base with
    | some a => (setCells σ a cs).bind fun σ' => .ok (goInt (Nat.min m l), σ')
    | none => sure cs.isEmpty "copy: nil" (.ok (goInt (Nat.min m l), σ))
  | _, _ => .no "copy"

def mapAt (σ : Hp) (r : Nat) : Res (Array MapEntry × Nat) :=
  match σ.get r with
  | some (.map es clock) => .ok (es, clock)
  | _ => .no "map: no such block"

def clear (P : Program) (σ : Hp) (argTypes : Array TypeId) (x : Value) : Res (Value × Hp) :=
  match argTypes[0]?.bind P.underlying, x with
  | some _, .map none => .ok (.tuple #[], σ)
  | some _, .slice none _ _ => .ok (.tuple #[], σ)
  | some _, .slice _ 0 _ => .ok (.tuple #[], σ)
  | some (.slice e), .slice (some a) n _ => (zeroOf P e).bind fun z =>
    (setCells σ a (Builtin.zeroCells z.cells n).toList).bind fun σ' => .ok (.tuple #[], σ')
  | _, _ => .no "clear"

/-- A key's place among entries; all keys without addresses. -/
def findIdx (P : Program) (kt : TypeId) (k : Value) (es : List MapEntry) : Res (Option Nat) :=
  sure (flat 8 k && es.all fun e => flat 8 e.key) "map: a key with an address" <|
  (need (prun P (Instr.findKey kt k (es.map fun e => { e with val := unk }))) "map: find").bind fun r => .ok (r.map (·.1))

def keyOk (P : Program) (empty : Bool) (kt : TypeId) (k : Value) : Res Unit := need (prun P (Instr.checkKey empty 10000 kt k)) "map: key"

def lookup (P : Program) (σ : Hp) (t : TypeId) (m k : Value) (ok : Bool) : Res Value :=
  match P.underlying t with
  | some (.map kt et) =>
    (match m with
     | .map none => Res.ok #[]
     | .map (some r) => (mapAt σ r).bind fun x => .ok x.1
     | _ => .no "lookup").bind fun es =>
    (keyOk P es.isEmpty kt k).bind fun _ => (findIdx P kt k es.toList).bind fun i =>
    (match i with
     | some j => (need (es[j]?) "lookup").bind fun e => Res.ok (e.val, true)
     | none => (zeroOf P et).bind fun z => .ok (z, false)).bind fun r =>
    .ok (match ok with | true => .tuple #[r.1, .bool r.2] | false => r.1)
  | _ => .no "lookup: type"

def mapUpdate (P : Program) (σ : Hp) (t : TypeId) (m k v : Value) : Res Hp :=
  match P.underlying t, m with
  | some (.map kt _), .map (some r) => (mapAt σ r).bind fun x => (keyOk P false kt k).bind fun _ => (findIdx P kt k x.1.toList).bind fun i =>
    match i with
    | some j => (need (x.1[j]?) "mapUpdate").bind fun e => sure (Instr.sameBits 10000 e.key k) "mapUpdate: another key" <|
      .ok (σ.put r (some (.map (x.1.modify j fun e => { e with key := k, val := v }) x.2)))
    | none => .ok (σ.put r (some (.map (x.1.push { key := k, val := v, born := x.2 }) (x.2 + 1))))
  | _, _ => .no "mapUpdate"

def delete (P : Program) (σ : Hp) (argTypes : Array TypeId) (m k : Value) : Res (Value × Hp) :=
  match argTypes[0]?.bind P.underlying, m with
  | some (.map kt _), .map (some r) => (mapAt σ r).bind fun x => (keyOk P x.1.isEmpty kt k).bind fun _ => (findIdx P kt k x.1.toList).bind fun i =>
    .ok (.tuple #[], σ.put r (some (.map (match i with | some j => x.1.eraseIdxIfInBounds j | none => x.1) x.2)))
  | _, _ => .no "delete"

def next (σ : Hp) (it : Value) (isString : Bool) : Res (Value × Hp) :=
  match it with
  | .pointer (some ⟨r, 0, _⟩) =>
    match σ.get r, isString with
    | some (.stringIter s pos), true =>
      match decide (pos < s.size) with
      | true => let d := Utf8.decode s pos
        .ok (.tuple #[.bool true, goInt pos, .int .i32 d.1], σ.put r (some (.stringIter s (pos + d.2))))
      | false => .ok (.tuple #[.bool false], σ)
    | some (.mapIter none _ _ _), false => .ok (.tuple #[.bool false], σ)
    | some (.mapIter (some m) since seen last), false => (mapAt σ m).bind fun x =>
      sure (seen.isEmpty || x.1.isEmpty || !x.1.toList.all (·.born ≥ last)) "next: all gone" <|
      match x.1.toList.filter (fun e => !seen.toList.contains e.born) with
      | [] => .ok (.tuple #[.bool false], σ)
      | [e] => sure (decide (e.born < since)) "next: a new one"
        (.ok (.tuple #[.bool true, e.key, e.val], σ.put r (some (.mapIter (some m) since (seen.push e.born) x.2))))
      | _ => .no "next: several"
    | _, _ => .no "next"
  | _ => .no "next: iterator"

def entry (σ : Hp) (it : Value) : Res Value :=
  match it with
  | .pointer (some ⟨r, 0, _⟩) =>
    match σ.get r with
    | some (.mapIter (some m) _ seen stepped) => (need seen.back? "entry").bind fun stamp => (mapAt σ m).bind fun x =>
      sure (decide (x.2 = stepped)) "entry: an insertion" <|
      (need (x.1.toList.find? (·.born == stamp)) "entry: gone").bind fun e => .ok (.tuple #[e.key, e.val])
    | _ => .no "entry"
  | _ => .no "entry"

def range (P : Program) (σ : Hp) (t : TypeId) (x : Value) : Res (Value × Hp) :=
  (match P.underlying t, x with
   | some .string, .string s => Res.ok (Ob.stringIter s 0)
   | some (.map _ _), .map none => .ok (Ob.mapIter none 0 #[] 0)
   | some (.map _ _), .map (some m) => (mapAt σ m).bind fun x => .ok (Ob.mapIter (some m) x.2 #[] x.2)
   | _, _ => .no "range").bind fun o =>
  .ok (.pointer (some ⟨σ.next, 0, none⟩), σ.alloc o)

/-- The bytes that cells hold. -/
def bytesIn : List Value → Res (List UInt8)
  | [] => .ok []
  | .int .u8 n :: r => (bytesIn r).bind fun l => .ok (UInt8.ofNat n.toNat :: l)
  | _ => .no "no byte"

def bytesOf (σ : Hp) : Value → Res (List UInt8)
  | .string s => .ok s.data.toList
  | .slice none _ _ => .ok []
  | .slice (some _) 0 _ => .ok []
  | .slice (some a) l _ => (cellsAt σ a l).bind bytesIn
  | _ => .no "bytes of what?"

def slice (P : Program) (σ : Hp) (t : TypeId) (x : Value) (lo hi mx : Option Value) : Res Value :=
  (need (prun P (Instr.sliceAt t x lo hi mx)) "slice").bind fun r =>
  match r, x with
  | .slice (some _) _ c, .slice (some b) _ _ =>
    match σ.get b.block, mx with
    | some (.cells _ _ _ _ _ false), _ => .ok r
    | some (.cells _ _ _ _ _ true), some _ => .ok r
    | some (.cells _ _ e _ _ true), none => (elemT P t).bind fun e' => sure (decide (0 < c) && decide (e = e')) "slice: at the end of a grown block" (.ok r)
    | _, _ => .no "slice: no such block"
  | _, _ => .ok r

def isNilV : Value → Option Bool
  | .pointer none | .map none | .slice none _ _ | .nilFunc | .nilIface => some true
  | .pointer (some _) | .map (some _) | .slice (some _) _ _ | .func .. | .iface .. => some false
  | _ => none

/-- '==' where one of both is nil; or two pointers into one block. -/
def same (P : Program) (σ : Hp) (t : TypeId) (x y : Value) : Res Bool :=
  match P.underlying t, x, y with
  | some (.pointer e), .pointer (some a), .pointer (some b) => (szOf P e).bind fun n =>
    sure (decide (n ≠ 0) && decide (a.block = b.block) && (σ.get a.block).isSome) "==: pointers into two blocks" (.ok (decide (a = b)))
  | some (.pointer _), .pointer a, .pointer b => .ok (a.isNone && b.isNone)
  | some (.slice _), .slice none _ _, .slice b _ _ => .ok b.isNone
  | some (.slice _), .slice a _ _, .slice none _ _ => .ok a.isNone
  | some (.map ..), .map none, .map b => .ok b.isNone
  | some (.map ..), .map a, .map none => .ok a.isNone
  | some (.func ..), .nilFunc, .func .. => .ok false
  | some (.func ..), .func .., .nilFunc => .ok false
  | _, _, _ => .no "=="

def uptr (P : Program) (σ : Hp) (src dst : TypeId) (x : Value) : Res Value :=
  match P.underlying src, P.underlying dst, x with
  | some (.pointer t), some .unsafePointer, .pointer (some a) => (szOf P t).bind fun n =>
    match σ.get a.block with
    | some (.cells _ m _ _ _ false) => sure (decide (n ≠ 0) && decide (a.off < m)) "unsafe.Pointer" (.ok x)
    | _ => .no "unsafe.Pointer"
  | some .unsafePointer, some (.pointer u), .pointer (some a) => (szOf P u).bind fun n =>
    match σ.get a.block with
    | some (.cells _ m e _ _ false) => sure (decide (n ≠ 0) && liesAt P P.depth e (m / P.cellsOf e) a.off u 1) "unsafe.Pointer" (.ok x)
    | _ => .no "unsafe.Pointer"
  | _, _, _ => .no "unsafe.Pointer"

def ustring (P : Program) (σ : Hp) (argTypes : Array TypeId) (p n : Value) : Res (Value × Hp) :=
  match argTypes[0]?.bind P.underlying, p, n with
  | some (.pointer e), .pointer (some a), .int .i64 k =>
    sure (decide (0 ≤ k) && decide (k ≤ IntKind.i64.max)) "unsafe.String" <|
    match k.toNat with
    | 0 => .ok (.string .empty, σ)
    | m + 1 => match σ.get a.block with
      | some (.cells c n e' lo hi opn) =>
        sure (a.spot.isNone && decide (e' = e) && decide (P.cellsOf e = 1) && decide (a.off + (m + 1) ≤ n) && sameLayout P P.depth e e && decide (P.depth ≠ 0)) "unsafe.String: cells" <|
        (cellsAt σ a (m + 1)).bind fun vs => (bytesIn vs).bind fun bs =>
        .ok (.string ⟨bs.toArray⟩, σ.put a.block (some (.cells c n e' (if lo == hi then a.off else min lo a.off) (if lo == hi then a.off + (m + 1) else max hi (a.off + (m + 1))) opn)))
      | _ => .no "unsafe.String: block"
  | some (.pointer _), .pointer none, .int .i64 0 => .ok (.string .empty, σ)
  | _, _, _ => .no "unsafe.String"

/-! ### An operation that is no call of a function -/
def flatOp (P : Program) (fr : Fr) (o : Oper) : Res Value :=
  sure (o.op.operands.toList.all fun x => flat 8 (ev fr x)) "no rule: an address" <|
  (need (prun P (execOp (ev fr) o)) "no rule: the world").bind fun r =>
  match r with
  | .value v => sure (flat 8 v) "no rule: a result with an address" (.ok v)
  | _ => .no "no rule"

def opLen (P : Program) (fr : Fr) (σ : Hp) (t : Option TypeId) (x : Operand) : Res (Value × Hp) :=
  match t.bind P.underlying, ev fr x with
  | some (.slice _), .slice _ n _ => .ok (goInt n, σ)
  | some (.map _ _), .map none => .ok (goInt 0, σ)
  | some (.map _ _), .map (some r) => (mapAt σ r).bind fun m => .ok (goInt m.1.size, σ)
  | some .string, .string s => .ok (goInt s.size, σ)
  | some (.array n _), _ => .ok (goInt n, σ)
  | _, _ => .no "len"

def opCap (P : Program) (fr : Fr) (σ : Hp) (t : Option TypeId) (x : Operand) : Res (Value × Hp) :=
  match t.bind P.underlying, ev fr x with
  | some (.slice _), .slice none _ n => .ok (goInt n, σ)
  | some (.slice _), .slice (some a) _ n => match σ.get a.block with
    | some (.cells _ _ _ _ _ false) => .ok (goInt n, σ)
    | _ => .no "cap of a grown one"
  | _, _ => .no "cap"

def opSliceData (fr : Fr) (σ : Hp) (x : Operand) : Res (Value × Hp) :=
  match ev fr x with
  | .slice none _ _ => .ok (.pointer none, σ)
  | .slice (some a) _ (_ + 1) => match σ.get a.block with
    | some _ => .ok (.pointer (some a), σ)
    | none => .no "unsafe.SliceData: gone"
  | _ => .no "unsafe.SliceData"

def keep (σ : Hp) (x : Res Value) : Res (Value × Hp) := x.bind fun v => .ok (v, σ)
def done (x : Res Hp) : Res (Value × Hp) := x.bind fun σ => .ok (undef, σ)
def pr (P : Program) (σ : Hp) (s : Sem Value) (why : String) : Res (Value × Hp) := (need (prun P s) why).bind fun v => .ok (v, σ)

def builtin (P : Program) (fr : Fr) (σ : Hp) (o : Oper) (b : Builtin) (args : List Operand) (ts : Array TypeId) : Res (Value × Hp) :=
  match b, args with
  | .append, [s, x] => append P σ ts (ev fr s) (ev fr x)
  | .copy, [d, s] => copy P σ ts (ev fr d) (ev fr s)
  | .clear, [x] => clear P σ ts (ev fr x)
  | .delete, [m, k] => delete P σ ts (ev fr m) (ev fr k)
  | .len, [x] => opLen P fr σ ts[0]? x
  | .cap, [x] => opCap P fr σ ts[0]? x
  | .unsafeString, [p, n] => ustring P σ ts (ev fr p) (ev fr n)
  | .unsafeSliceData, [x] => opSliceData fr σ x
  | _, _ => keep σ (flatOp P fr o)

def opPick (fr : Fr) (σ : Hp) (c a b : Operand) : Res (Value × Hp) :=
  match ev fr c with
  | .bool true => .ok (ev fr a, σ)
  | .bool false => .ok (ev fr b, σ)
  | _ => .no "pick"

def opAlloc (P : Program) (σ : Hp) (t : TypeId) : Res (Value × Hp) :=
  (zeroOf P t).bind fun z => .ok (.pointer (some ⟨σ.next, 0, none⟩), σ.alloc (row z.cells.toList t false))

def opBuild (P : Program) (fr : Fr) (σ : Hp) (t : TypeId) (parts : Array (Nat × Operand)) : Res (Value × Hp) :=
  (zeroOf P t).bind fun _ => sure (parts.toList.all fun x => known (ev fr x.2)) "build: a part" <|
  pr P σ (Instr.build t (parts.toList.map fun x => (x.1, ev fr x.2)).toArray) "build"

def opBox (σ : Hp) (t : TypeId) (v : Value) : Res (Value × Hp) :=
  sure (known v) "box" (.ok (.pointer (some ⟨σ.next, 0, none⟩), σ.alloc (row v.cells.toList t false)))

def zeros (z : Array Value) (n : Nat) : Array Value := ((List.range n).map (fun i => z[i % z.size]!)).toArray

def opBuildSlice (P : Program) (fr : Fr) (σ : Hp) (t : TypeId) (len : Nat) (parts : Array (Nat × Operand)) : Res (Value × Hp) :=
  (elemT P t).bind fun e => (szOf P e).bind fun size => sure (decide (len * size ≤ 2 ^ 24) && true && parts.toList.all fun x => known (ev fr x.2)) "buildSlice" <| (zeroOf P e).bind fun z => sure (decide (z.cells.size = size)) "buildSlice: zero" <|
  (need (Instr.fill (fun i => some (i * size, size)) (zeros z.cells (len * size)) (parts.toList.map fun x => (x.1, ev fr x.2))) "buildSlice: parts").bind fun cs =>
  .ok (.slice (some ⟨σ.next, 0, none⟩) len len, σ.alloc (row cs.toList e false))

def opNilCheck (fr : Fr) (σ : Hp) (x : Operand) : Res (Value × Hp) :=
  match ev fr x with
  | .pointer (some a) => .ok (.pointer (some a), σ)
  | .func (.func f) a c => .ok (.func (.func f) a c, σ)
  | _ => .no "nilCheck"

def lim : IntKind → Nat
  | .i8 => 128
  | .i16 => 32768
  | .i32 => 2147483648
  | .i64 => 9223372036854775808
  | .u8 => 256
  | .u16 => 65536
  | .u32 => 4294967296
  | .u64 => 18446744073709551616

/-- 'wrap', soon. -/
def wr (k : IntKind) (n : Int) : Int :=
  match n with
  | .ofNat x => match Nat.blt x (lim k) with
    | true => .ofNat x
    | false => match k.signed with
      | false => .ofNat (x % lim k)
      | true => k.wrap n
  | _ => k.wrap n

/-- Two numbers of one kind. -/
def binInt (op : BinOp) (k : IntKind) (a b : Int) : Option Value :=
  match op with
  | .add => some (.int k (wr k (a + b)))
  | .sub => some (.int k (wr k (a - b)))
  | .mul => some (.int k (wr k (a * b)))
  | .eql => some (.bool (a == b))
  | .neq => some (.bool (a != b))
  | .lss => some (.bool (a < b))
  | .leq => some (.bool (a ≤ b))
  | .gtr => some (.bool (a > b))
  | .geq => some (.bool (a ≥ b))
  | .and => match a, b with
    | .ofNat x, .ofNat y => some (.int k (wr k (Int.ofNat (Nat.land x y))))
    | _, _ => none
  | .or => match a, b with
    | .ofNat x, .ofNat y => some (.int k (wr k (Int.ofNat (Nat.lor x y))))
    | _, _ => none
  | .xor => match a, b with
    | .ofNat x, .ofNat y => some (.int k (wr k (Int.ofNat (Nat.xor x y))))
    | _, _ => none
  | .quo => match a, b with
    | .ofNat x, .ofNat (y + 1) => some (.int k (wr k (Int.ofNat (x / (y + 1)))))
    | _, _ => none
  | .rem => match a, b with
    | .ofNat x, .ofNat (y + 1) => some (.int k (Int.ofNat (x % (y + 1))))
    | _, _ => none
  | _ => none

/-- A shift: the count of whatever kind. -/
def shiftInt (op : BinOp) (k : IntKind) (a b : Int) : Option Value :=
  match op, a, b with
  | .shl, .ofNat x, .ofNat y => some (.int k (wr k (Int.ofNat (x * 2 ^ (min y k.bits)))))
  | .shr, .ofNat x, .ofNat y => some (.int k (Int.ofNat (x / 2 ^ (min y k.bits))))
  | _, _, _ => none

def opBinInt (P : Program) (fr : Fr) (σ : Hp) (o : Oper) (op : BinOp) (j k : IntKind) (a b : Int) : Res (Value × Hp) :=
  match op with
  | .shl | .shr => match shiftInt op j a b with
    | some v => .ok (v, σ)
    | none => keep σ (flatOp P fr o)
  | _ => match decide (j = k) with
    | true => match binInt op j a b with
      | some v => .ok (v, σ)
      | none => keep σ (flatOp P fr o)
    | false => .no "binOp: kinds"

def opEq (P : Program) (σ : Hp) (op : BinOp) (t : TypeId) (u v : Value) : Res (Value × Hp) :=
  match op with
  | .eql => (same P σ t u v).bind fun b => .ok (.bool b, σ)
  | .neq => (same P σ t u v).bind fun b => .ok (.bool (!b), σ)
  | _ => .no "binOp"

def opBin (P : Program) (fr : Fr) (σ : Hp) (o : Oper) (op : BinOp) (t : TypeId) (x y : Operand) : Res (Value × Hp) :=
  match ev fr x, ev fr y with
  | .int j a, .int k b => opBinInt P fr σ o op j k a b
  | u, v => match flat 8 u && flat 8 v with
    | true => keep σ (flatOp P fr o)
    | false => opEq P σ op t u v

def opConvert (P : Program) (fr : Fr) (σ : Hp) (o : Oper) (src dst : TypeId) (x : Operand) : Res (Value × Hp) :=
  match P.underlying src, P.underlying dst, ev fr x with
  | some (.int _), some (.int k), .int _ n => .ok (.int k (wr k n), σ)
  | some (.slice e), some .string, v => match P.underlying e with
    | some (.int .u8) => (bytesOf σ v).bind fun l => .ok (.string ⟨l.toArray⟩, σ)
    | _ => .no "convert"
  | _, some .unsafePointer, v => keep σ (uptr P σ src dst v)
  | some .unsafePointer, _, v => keep σ (uptr P σ src dst v)
  | _, some (.slice _), _ => .no "convert to a slice"
  | _, _, _ => keep σ (flatOp P fr o)

def opMakeSlice (P : Program) (fr : Fr) (σ : Hp) (t : TypeId) (l c : Operand) : Res (Value × Hp) :=
  (elemT P t).bind fun e => (szOf P e).bind fun size => (need ((P.info? e).map (·.bytes)) "bytes").bind fun bytes => (zeroOf P e).bind fun z => sure (decide (z.cells.size = size)) "makeSlice: zero" <|
  match ev fr l, ev fr c with
  | .int .i64 m, .int .i64 k => sure (decide (0 ≤ m) && decide (m ≤ k) && decide (k * bytes ≤ 2 ^ 47) && decide (k < 2 ^ 47)) "makeSlice" <|
    .ok (.slice (some ⟨σ.next, 0, none⟩) m.toNat k.toNat, σ.alloc (row (zeros z.cells (k.toNat * size)).toList e false))
  | _, _ => .no "makeSlice"

def opMakeFunc (fr : Fr) (σ : Hp) (fn : Fn) (first captured : Array Operand) : Res (Value × Hp) :=
  match fn with
  | .func f => .ok (.func (.func f) (first.toList.map (ev fr)).toArray (captured.toList.map (ev fr)).toArray, σ)
  | _ => .no "makeFunc"

def opMakeMap (σ : Hp) (r : Option Operand) : Res (Value × Hp) :=
  match r with
  | none => .ok (.map (some σ.next), σ.alloc (.map #[] 0))
  | some _ => .no "make of a map, with a hint"

def isUnk : Value → Bool
  | .tuple ⟨.tuple ⟨[]⟩ :: _⟩ => true
  | _ => false

def opExtract (fr : Fr) (σ : Hp) (t : Operand) (i : Nat) : Res (Value × Hp) :=
  match ev fr t with
  | .tuple vs => sure (!isUnk (.tuple vs)) "extract" (keep σ (need vs[i]? "extract"))
  | _ => .no "extract"

def opBuiltin (P : Program) (fr : Fr) (σ : Hp) (o : Oper) (c : Call) : Res (Value × Hp) :=
  match c.callee with
  | .builtin b => builtin P fr σ o b c.args.toList c.argTypes
  | _ => .no "call"

def lenOk : Value → Bool
  | .slice _ l c => Nat.ble l c
  | _ => true

def opSlice (P : Program) (fr : Fr) (σ : Hp) (t : TypeId) (x : Operand) (lo hi mx : Option Operand) : Res (Value × Hp) :=
  sure (lenOk (ev fr x)) "slice: longer than its room" (keep σ (slice P σ t (ev fr x) (lo.map (ev fr)) (hi.map (ev fr)) (mx.map (ev fr))))

def opUn (P : Program) (fr : Fr) (σ : Hp) (op : UnOp) (x : Operand) : Res (Value × Hp) :=
  match flat 1 (ev fr x) with
  | true => (pr P σ (Op.unary op (ev fr x)) "unary").bind fun r => sure (flat 1 r.1) "unary" (.ok r)
  | false => .no "unary"

def plain0 (P : Program) (fr : Fr) (σ : Hp) (o : Oper) : Res (Value × Hp) :=
  match o.op with
  | .move x => .ok (ev fr x, σ)
  | .assign x => .ok (ev fr x, σ)
  | .pick c a b => opPick fr σ c a b
  | .alloc t => opAlloc P σ t
  | .box t x => opBox σ t (ev fr x)
  | .build t parts => opBuild P fr σ t parts
  | .buildSlice t len parts => opBuildSlice P fr σ t len parts
  | .load t a => keep σ (load P σ t (ev fr a))
  | .store t a x => done (store P σ t (ev fr a) (ev fr x))
  | .nilCheck x => opNilCheck fr σ x
  | .binOp op t x y _ => opBin P fr σ o op t x y
  | .convert src dst x => opConvert P fr σ o src dst x
  | .makeInterface t x => pr P σ (Instr.makeInterface t (ev fr x)) "makeInterface"
  | .makeFunc fn first captured => opMakeFunc fr σ fn first captured
  | .makeMap _ r => opMakeMap σ r
  | .makeSlice t l c => opMakeSlice P fr σ t l c
  | .slice t x lo hi mx => opSlice P fr σ t x lo hi mx
  | .fieldAddr s x f => pr P σ (Instr.fieldAt s (ev fr x) f) "fieldAddr"
  | .field t x f => pr P σ (Instr.field t (ev fr x) f) "field"
  | .indexAddr t x i => pr P σ (Instr.indexAt t (ev fr x) (ev fr i)) "indexAddr"
  | .index t x i => pr P σ (Instr.index t (ev fr x) (ev fr i)) "index"
  | .lookup t m k ok => keep σ (lookup P σ t (ev fr m) (ev fr k) ok)
  | .mapUpdate t m k v => done (mapUpdate P σ t (ev fr m) (ev fr k) (ev fr v))
  | .range t x => range P σ t (ev fr x)
  | .next it isString => next σ (ev fr it) isString
  | .entry it => keep σ (entry σ (ev fr it))
  | .extract t i => opExtract fr σ t i
  | .unOp op _ x => opUn P fr σ op x
  | .call c => opBuiltin P fr σ o c
  | _ => .no "operation"

/-- A text that has a name is copied. -/
def copyT (P : Program) [Tab P] (fr : Fr) (σ : Hp) (d s : Operand) (ts : Array TypeId) : Res (Value × Hp) :=
  match ts[0]?, ev fr d, ev fr s with
  | some t, .slice (some a) l _, .chan (some b) => (elemT P t).bind fun e => (szOf P e).bind fun size => (need (Tab.text P b) "text").bind fun cs =>
    sure (Nat.beq size 1) "copy: size" ((setCells σ a (cs.take (Nat.min cs.length l))).bind fun σ' => .ok (goInt (Nat.min cs.length l), σ'))
  | _, _, _ => .no "copy of a text"

/-- A key that is unlike all that are there. -/
def lookupT (P : Program) [Tab P] (fr : Fr) (σ : Hp) (t : TypeId) (m k : Operand) (ok : Bool) : Res (Value × Hp) :=
  match P.underlying t, ev fr m with
  | some (.map kt et), .map (some r) => (mapAt σ r).bind fun x =>
    sure ((x.1.toList.all fun e => flat 8 e.key) && Tab.apart P kt (ev fr k) (x.1.toList.map (·.key))) "lookup: apart" <|
    (zeroOf P et).bind fun z => .ok (match ok with | true => .tuple #[z, .bool false] | false => z, σ)
  | _, _ => .no "lookup of a name"

/-- It stands for a byte. -/
def isByte (P : Program) [Tab P] : Value → Bool
  | .int .u8 (.ofNat n) => Nat.blt n 256
  | .chan (some b) => Tab.byte P b
  | _ => false

/-- What is appended, as a list of texts and bytes. -/
def pieces (P : Program) [Tab P] (σ : Hp) : Value → Res (List Value)
  | .string s => sure (Nat.ble s.size 1048576) "pieces: long" (.ok [.string s])
  | .chan (some b) => sure (Tab.short P b) "pieces: of what?" (.ok [.chan (some b)])
  | .slice (some a) (l + 1) _ => (cellsAt σ a (l + 1)).bind fun vs => sure (vs.all (isByte P) && Nat.ble (l + 1) 1048576) "pieces: no bytes" (.ok vs)
  | _ => .no "pieces"

/-- A row of bytes of which the length has a name. -/
def chunked (σ : Hp) (old : Nat) (e : TypeId) (content : List Value) : Res (Value × Hp) :=
  sure (Nat.ble content.length 1000) "chunks: many" <|
  .ok (.chan (some σ.next), Hp.put ⟨(σ.kill old).t, σ.next + 3⟩ (σ.next + 2) (some (.chunks σ.next e content)))

def appendT (P : Program) [Tab P] (fr : Fr) (σ : Hp) (s x : Operand) (ts : Array TypeId) : Res (Value × Hp) :=
  match ts[0]?, ts[1]? with
  | some st, some xt =>
    match P.underlying xt with
    | some (.int _) => .no "append: of a make"
    | none => .no "append: type"
    | some _ =>
    (elemT P st).bind fun e => (szOf P e).bind fun size => (need ((P.info? e).map (·.bytes)) "bytes").bind fun bytes => (zeroOf P e).bind fun z => sure (Nat.beq size 1 && Nat.beq bytes 1 && Nat.beq z.cells.size 1) "append: no bytes" <|
    (pieces P σ (ev fr x)).bind fun new =>
    match ev fr s with
    | .slice (some a) (l + 1) c => match σ.get a.block with
      | some (.cells _ m e' 0 0 true) => (cellsAt σ a (l + 1)).bind fun old =>
        sure (Nat.beq a.off 0 && a.spot.isNone && Nat.beq c m && Nat.beq e' e && old.all (isByte P) && Nat.ble (l + 1) c && Nat.ble (l + 1) 1000) "append: to no row of its own" (chunked σ a.block e (old ++ new))
      | _ => .no "append: no row"
    | .chan (some n) => match σ.get (n + 2) with
      | some (.chunks n' e' content) => sure (Nat.beq n' n && Nat.beq e' e && Nat.ble content.length 1000) "append: another name" (chunked σ (n + 2) e (content ++ new))
      | _ => .no "append: no chunks"
    | _ => .no "append: to what?"
  | _, _ => .no "append: operands"

def lenT (P : Program) (fr : Fr) (σ : Hp) (x : Operand) (ts : Array TypeId) : Res (Value × Hp) :=
  match (ts[0]?).bind P.underlying, ev fr x with
  | some (.slice _), .chan (some n) => match σ.get (n + 2) with
    | some (.chunks n' _ _) => sure (Nat.beq n' n) "len: another name" (.ok (.chan (some (n + 1)), σ))
    | _ => .no "len: no chunks"
  | _, _ => .no "len of a name"

def dataT (fr : Fr) (σ : Hp) (x : Operand) : Res (Value × Hp) :=
  match ev fr x with
  | .chan (some n) => match σ.get (n + 2) with
    | some (.chunks n' _ _) => sure (Nat.beq n' n) "data: another name" (.ok (.pointer (some ⟨n + 2, 0, none⟩), σ))
    | _ => .no "data: no chunks"
  | _ => .no "data of a name"

def stringT (P : Program) [Tab P] (fr : Fr) (σ : Hp) (p n : Operand) (ts : Array TypeId) : Res (Value × Hp) :=
  match (ts[0]?).bind P.underlying, ev fr p, ev fr n with
  | some (.pointer e), .pointer (some ⟨b, 0, none⟩), .chan (some k) => match σ.get b with
    | some (.chunks n' e' content) => sure (Nat.beq (n' + 1) k && Nat.beq e' e && Nat.ble content.length 1000 && decide (P.cellsOf e = 1) && sameLayout P P.depth e e && decide (P.depth ≠ 0)) "string: another name" <|
      (need (Tab.join P content) "join").bind fun v => .ok (v, σ.kill b)
    | _ => .no "string: no chunks"
  | some (.pointer e), .pointer (some ⟨b, 0, none⟩), .int .i64 (.ofNat (m + 1)) => match σ.get b with
    | some (.cells _ _ e' 0 0 _) => sure (Nat.beq e' e && Nat.ble (m + 1) 1000 && decide (P.cellsOf e = 1) && sameLayout P P.depth e e && decide (P.depth ≠ 0)) "string: cells" <|
      (cellsAt σ ⟨b, 0, none⟩ (m + 1)).bind fun vs => sure (vs.all (isByte P)) "string: no bytes" <|
      (need (Tab.join P vs) "join").bind fun v => .ok (v, σ.kill b)
    | _ => .no "string: no row"
  | _, _, _ => .no "string of a name"

/-- What is known of names. -/
def extra (P : Program) [Tab P] (fr : Fr) (σ : Hp) (o : Oper) (why : String) : Res (Value × Hp) :=
  match Tab.fact P o.op (o.op.operands.toList.map (ev fr)) with
  | some v => .ok (v, σ)
  | none => match o.op with
    | .lookup t m k ok => lookupT P fr σ t m k ok
    | .call c => match c.callee, c.args.toList with
      | .builtin .copy, [d, s] => copyT P fr σ d s c.argTypes
      | .builtin .append, [s, x] => appendT P fr σ s x c.argTypes
      | .builtin .len, [x] => lenT P fr σ x c.argTypes
      | .builtin .unsafeSliceData, [x] => dataT fr σ x
      | .builtin .unsafeString, [p, n] => stringT P fr σ p n c.argTypes
      | _, _ => .no why
    | _ => .no why

def plain (P : Program) [Tab P] (fr : Fr) (σ : Hp) (o : Oper) : Res (Value × Hp) :=
  match plain0 P fr σ o with
  | .ok r => .ok r
  | .no s => extra P fr σ o s

/-! ### Calls, regions, code -/
inductive Ex where
  | normal
  | exit (id : Nat)
  | ret
  deriving DecidableEq

/-- An activation: its temporaries; the blocks of its loops' deferred calls. -/
structure Ac where
  fr : Fr
  marks : List Nat

structure Rec where
  code : Option Nat → FuncId → Code → Ac → Hp → Res (Ex × Ac × Hp)
  call : FuncId → List Value → Hp → Res (Value × Hp)
  value : Value → List Value → Hp → Res (Value × Hp)

/-- Is the operation wanted? -/
def wanted (ops : List Oper) (fr : Fr) (o : Oper) : Res Bool :=
  match o.guard with
  | none => .ok true
  | some (j, want) => match (ops[j]?).bind (·.dst) with
    | some d => match fr.at d with
      | .bool b => .ok (b == want)
      | .tuple ⟨[]⟩ => .ok false
      | _ => .no "guard"
    | none => .no "guard"

def opCall (P : Program) [Tab P] (R : Rec) (fr : Fr) (σ : Hp) (o : Oper) (c : Call) : Res (Value × Hp) :=
  match c.callee with
  | .value (.func f) => R.call f (c.args.toList.map (ev fr)) σ
  | .value f => R.value (ev fr f) (c.args.toList.map (ev fr)) σ
  | .invoke .. => .no "invoke"
  | .builtin _ => plain P fr σ o

def oper (P : Program) [Tab P] (R : Rec) (fr : Fr) (σ : Hp) (o : Oper) : Res (Value × Hp) :=
  match o.op with
  | .call c => opCall P R fr σ o c
  | _ => plain P fr σ o

def one (P : Program) [Tab P] (R : Rec) (ops : List Oper) (o : Oper) (fr : Fr) (σ : Hp) : Res (Fr × Hp) :=
  (wanted ops fr o).bind fun w =>
  match w with
  | true => (oper P R fr σ o).bind fun r => .ok (putFr fr o.dst r.1, r.2)
  | false => .ok (putFr fr o.dst undef, σ)

def inOrder (P : Program) [Tab P] (R : Rec) (ops : List Oper) : List Oper → Fr → Hp → Res (Fr × Hp)
  | [], fr, σ => .ok (fr, σ)
  | o :: rest, fr, σ => (one P R ops o fr σ).bind fun r => inOrder P R ops rest r.1 r.2

/-! ### A region that draws its order -/
inductive Kd where
  | pure
  | load
  | alloc
  | eff
  deriving DecidableEq

def kd (o : Oper) : Kd :=
  match o.op with
  | .load .. | .lookup .. | .entry _ | .slice .. | .convert .. => .load
  | .binOp .eql .. | .binOp .neq .. => .load
  | .alloc _ | .box .. | .buildSlice .. | .makeMap .. | .makeSlice .. => .alloc
  | .call { callee := .builtin .len, .. } | .call { callee := .builtin .cap, .. } | .call { callee := .builtin .unsafeSliceData, .. } => .load
  | .call { callee := .builtin .max, .. } | .call { callee := .builtin .min, .. } => .pure
  | .move _ | .assign _ | .pick .. | .build .. | .nilCheck _ | .binOp .. | .unOp .. | .makeInterface .. | .makeFunc .. | .fieldAddr .. | .field .. | .indexAddr .. | .index .. | .extract .. => .pure
  | _ => .eff

/-- Whom an operation has to follow, as bits. -/
def edgesOf (ms : List Nat) : List Edge → Option Nat
  | [] => some 0
  | e :: r => match Region.binds .any e with
    | true => match ms[e.on]?, edgesOf ms r with
      | some m, some x => some (m ||| 2 ^ e.on ||| x)
      | _, _ => none
    | false => edgesOf ms r

def masks : List Oper → List Nat → Option (List Nat)
  | [], ms => some ms
  | o :: r, ms => match edgesOf ms o.after.toList with
    | some m => masks r (ms ++ [m])
    | none => none

def namesOf (ops : List Oper) (o : Oper) : List Tmp :=
  (o.op.operands.toList.filterMap fun x => match x with | .tmp t => some t | _ => none) ++
  (match o.guard with
   | some (g, _) => ((ops[g]?).bind (·.dst)).toList
   | none => [])

/-- Each temporary is written once; whoever names it stands in an order with its writer. -/
def apartOk (ops : List Oper) (ms : List Nat) : Bool :=
  ops.zipIdx.all fun (o, i) => match o.dst with
    | none => true
    | some d => ops.zipIdx.all fun (x, j) => i == j || (x.dst != some d && (!(namesOf ops x).contains d || (match decide (i < j) with
      | true => (ms.getD j 0).testBit i
      | false => (ms.getD i 0).testBit j)))

def effsOf (ops : List Oper) : List Nat := ops.zipIdx.filterMap fun (o, i) => match kd o with | .eff => some i | _ => none

/-- The effects stand in one order. -/
def chained (ms : List Nat) : List Nat → Bool
  | a :: b :: r => (ms.getD b 0).testBit a && chained ms (b :: r)
  | _ => true

structure Plan where
  ms : List Nat
  effs : List Nat
  bits : Nat
  room : Nat

def isAlloc (o : Oper) : Bool := match kd o with | .alloc => true | _ => false

def plan (ops : List Oper) : Option Plan :=
  match masks ops [] with
  | none => none
  | some ms => let es := effsOf ops
    match apartOk ops ms && chained ms es with
    | true => some ⟨ms, es, es.foldl (fun b e => b ||| 2 ^ e) 0, match ops.any isAlloc with | true => ops.length | false => 0⟩
    | false => none

/-- On the way: temporaries; the heap behind the last effect; whom the effects so far follow, and they; the blocks made in the region; its loads; the heap behind each effect. -/
structure Way where
  fr : Fr
  σ : Hp
  low : Nat
  all : List (Nat × Ob)
  loads : List (Nat × Fr × Value)
  stages : List (Hp × Nat)

/-- The new blocks of 'm' that are not of 'low'. -/
def adopt (base m low : Nat) : List (Nat × Ob) → Hp → Hp
  | [], σ => σ
  | (k, ob) :: r, σ => match m.testBit k && !low.testBit k with
    | true => (adopt base m low r σ).put (base + k) (some ob)
    | false => adopt base m low r σ

def void (n : Nat) : Hp := ⟨.nil, n⟩

/-- What an operation yields, if it is wanted. -/
def wants (w : Bool) (σ : Hp) (x : Res (Value × Hp)) : Res (Value × Hp) :=
  match w with
  | true => x
  | false => .ok (undef, σ)

def maskAt (p : Plan) (i : Nat) : Nat := p.ms.getD i 0

def stepOn (P : Program) [Tab P] (R : Rec) (ops : List Oper) (p : Plan) (base i : Nat) (x : Way) : Res Way :=
  (need ops[i]? "region: operation").bind fun o => (wanted ops x.fr o).bind fun w =>
  match kd o with
  | .pure => (wants w (void base) (plain P x.fr (void base) o)).bind fun r => sure (Nat.beq r.2.next base) "region: not pure" <|
    .ok { x with fr := putFr x.fr o.dst r.1 }
  | .load => match w with
    | false => .ok { x with fr := putFr x.fr o.dst undef }
    | true => (plain P x.fr (adopt base (maskAt p i) x.low x.all x.σ) o).bind fun r =>
      .ok { x with fr := putFr x.fr o.dst r.1, loads := (i, x.fr, r.1) :: x.loads }
  | .alloc => match w with
    | false => .ok { x with fr := putFr x.fr o.dst undef }
    | true => (plain P x.fr (void (base + i)) o).bind fun r => sure (Nat.beq r.2.next (base + i + 1) && Nat.blt i p.room) "region: no new block" <|
      (need (r.2.get (base + i)) "region: no new block").bind fun ob => .ok { x with fr := putFr x.fr o.dst r.1, all := (i, ob) :: x.all }
  | .eff => (wants w (adopt base (maskAt p i) x.low x.all x.σ) (oper P R x.fr (adopt base (maskAt p i) x.low x.all x.σ) o)).bind fun r =>
    .ok { x with fr := putFr x.fr o.dst r.1, σ := r.2, low := x.low ||| maskAt p i ||| 2 ^ i, stages := (r.2, x.low ||| maskAt p i ||| 2 ^ i) :: x.stages }

def along (P : Program) [Tab P] (R : Rec) (ops : List Oper) (p : Plan) (base : Nat) : List Nat → Way → Res Way
  | [], x => .ok x
  | i :: r, x => (stepOn P R ops p base i x).bind fun y => along P R ops p base r y

/-- May load 'i' come while the effects so far are those of 'low'? -/
def mayCome (p : Plan) (i low : Nat) : Bool := !low.testBit i && Nat.beq (p.bits &&& maskAt p i &&& low) (p.bits &&& maskAt p i)

def agree (P : Program) [Tab P] (ops : List Oper) (p : Plan) (base : Nat) (all : List (Nat × Ob)) (i : Nat) (fr : Fr) (v : Value) : List (Hp × Nat) → Bool
  | [] => true
  | (h, low) :: r => (match mayCome p i low with
    | false => true
    | true => match ops[i]? with
      | some o => (match plain P fr (adopt base (maskAt p i) low all h) o with
        | .ok (u, _) => veq 8 u v
        | .no _ => false)
      | none => false) && agree P ops p base all i fr v r

def agrees (P : Program) [Tab P] (ops : List Oper) (p : Plan) (base : Nat) (all : List (Nat × Ob)) (stages : List (Hp × Nat)) : List (Nat × Fr × Value) → Bool
  | [] => true
  | (i, fr, v) :: r => agree P ops p base all i fr v stages && agrees P ops p base all stages r

def raised (σ : Hp) (n : Nat) : Hp := ⟨σ.t, σ.next + n⟩

def drawn (P : Program) [Tab P] (R : Rec) (ops : List Oper) (fr : Fr) (σ : Hp) : Res (Fr × Hp) :=
  (need (plan ops) "region: no plan").bind fun p =>
  (along P R ops p σ.next (List.range ops.length) ⟨fr, raised σ p.room, 0, [], [], [(raised σ p.room, 0)]⟩).bind fun x =>
  sure (agrees P ops p σ.next x.all x.stages x.loads) "region: a load that hangs on the order" <|
  .ok (x.fr, adopt σ.next (2 ^ ops.length - 1) x.low x.all x.σ)

/-! ### Code -/
def loopAt (σ : Hp) (l : Nat) : Res Loop :=
  match σ.get l with
  | some (.loop r) => .ok r
  | _ => .no "no such loop"

def putLoop (σ : Hp) (l : Nat) (r : Loop) : Hp := σ.put l (some (.loop r))

def hasBody (P : Program) (g : FuncId) : Bool := match P.funcs[g]? with
  | some fn => fn.body.isSome
  | none => false

/-- A range over a function: the block of its deferred calls; its record; the call; its end. -/
def startOf (round : Option Nat) (a : Ac) (σ : Hp) : Res (Nat × Hp × List Nat) :=
  match round with
  | some l => (loopAt σ l).bind fun r => .ok (r.defers, σ, a.marks)
  | none => .ok (σ.next, σ.alloc (.deferred true), σ.next :: a.marks)

def loopOb (a : Ac) (block : Nat) (params : Array Tmp) (assign body : Code) : Ob :=
  .loop { state := .ready, pending := none, fn := 0, tmps := a.fr.list.toArray, params, assign, body, defers := block }

def ranged (P : Program) (R : Rec) (f : Value) (l : Nat) (σ : Hp) : Res (Value × Hp) :=
  match f with
  | .func (.func g) first captured => sure (hasBody P g) "range: no body" (R.call g (first.toList ++ [.func (.yield l) #[] #[]] ++ captured.toList) σ)
  | _ => .no "range: no function"

def endOf (l : Nat) (σ : Hp) : Res (Option Code × Hp) :=
  (loopAt σ l).bind fun q => sure (q.state != LoopState.busy) "loop: busy" (.ok (q.pending, putLoop σ l { q with state := .exhausted }))

def codeStep (P : Program) [Tab P] (R : Rec) (round : Option Nat) (fn : FuncId) (c : Code) (a : Ac) (σ : Hp) : Res (Ex × Ac × Hp) :=
  match c with
  | .skip => .ok (.normal, a, σ)
  | .label _ => .ok (.normal, a, σ)
  | .ret => .ok (.ret, a, σ)
  | .exit id => .ok (.exit id, a, σ)
  | .seq x y => (R.code round fn x a σ).bind fun r => match r.1 with
    | .normal => R.code round fn y r.2.1 r.2.2
    | _ => .ok r
  | .cond o x y => match ev a.fr o with
    | .bool true => R.code round fn x a σ
    | .bool false => R.code round fn y a σ
    | _ => .no "cond"
  | .block id x => (R.code round fn x a σ).bind fun r => match r.1 with
    | .exit i => match decide (i = id) with
      | true => .ok (.normal, r.2.1, r.2.2)
      | false => .ok r
    | _ => .ok r
  | .loop x => (R.code round fn x a σ).bind fun r => match r.1 with
    | .normal => R.code round fn (.loop x) r.2.1 r.2.2
    | _ => .ok r
  | .region _ ops draw => match draw with
    | false => (inOrder P R ops.toList ops.toList a.fr σ).bind fun r => .ok (.normal, { a with fr := r.1 }, r.2)
    | true => (drawn P R ops.toList a.fr σ).bind fun r => .ok (.normal, { a with fr := r.1 }, r.2)
  | .rangeFunc f params assign body =>
    (startOf round a σ).bind fun d =>
    (ranged P R (ev a.fr f) d.2.1.next (d.2.1.alloc (loopOb a d.1 params assign body))).bind fun r =>
    (endOf d.2.1.next r.2).bind fun e =>
    match e.1 with
    | none => .ok (.normal, ⟨a.fr, d.2.2⟩, e.2)
    | some j => R.code round fn j ⟨a.fr, d.2.2⟩ e.2
  | _ => .no "code"

def yieldStep (R : Rec) (l : Nat) (args : List Value) (σ : Hp) : Res (Value × Hp) :=
  (loopAt σ l).bind fun r => sure (decide (args.length = r.params.size)) "yield: arguments" <|
  (R.code (some l) 0 r.assign ⟨(r.params.toList.zip args).foldl (fun t x => t.put x.1 x.2) (Fr.of r.tmps.toList r.tmps.size), []⟩ σ).bind fun x =>
  match x.1 with
  | .normal => (loopAt x.2.2 l).bind fun q => sure (q.state == LoopState.ready) "yield: not ready" <|
    (R.code (some l) 0 r.body x.2.1 (putLoop x.2.2 l { q with state := .busy })).bind fun y => (loopAt y.2.2 l).bind fun s =>
    match y.1 with
    | .normal => .ok (.bool true, putLoop y.2.2 l { s with state := .ready, pending := none })
    | .ret => .ok (.bool false, putLoop y.2.2 l { s with state := .done, pending := some .ret })
    | .exit id => .ok (.bool false, putLoop y.2.2 l { s with state := .done, pending := some (.exit id) })
  | _ => .no "yield: assign"

def valueStep (R : Rec) (v : Value) (args : List Value) (σ : Hp) : Res (Value × Hp) :=
  match v with
  | .func (.func f) first captured => R.call f (first.toList ++ args ++ captured.toList) σ
  | .func (.yield l) first _ => yieldStep R l (first.toList ++ args) σ
  | _ => .no "call of a value"

def unmark : List Nat → Hp → Res Hp
  | [], σ => .ok σ
  | m :: r, σ => match σ.get m with
    | some (.deferred true) => unmark r (σ.put m (some (.deferred false)))
    | _ => .no "mark"

def result (P : Program) (fr : Fr) (σ : Hp) : ResultVar → Res Value
  | .tmp t => .ok (fr.at t)
  | .cell a t => load P σ t (fr.at a)

def resultsOf (P : Program) (fr : Fr) (σ : Hp) : List ResultVar → Res (List Value)
  | [] => .ok []
  | x :: r => (result P fr σ x).bind fun v => (resultsOf P fr σ r).bind fun vs => .ok (v :: vs)

def madeNoZero (P : Program) (fn : Func) (n : Int) (σ : Hp) : Res (Value × Hp) :=
  (need fn.resultTypes[0]? "MakeNoZero").bind fun t => (elemT P t).bind fun e => (szOf P e).bind fun k =>
  sure (Nat.beq k 1 && decide (0 < n) && decide (n ≤ 2 ^ 47)) "MakeNoZero" (.ok (.slice (some ⟨σ.next, 0, none⟩) n.toNat n.toNat, σ.alloc (row (List.replicate n.toNat unk) e true)))

/-- The cells of a slice. -/
def charsOf (σ : Hp) : Value → Res (List Value)
  | .slice (some a) l _ => cellsAt σ a l
  | _ => .no "cells of what?"

def extern (P : Program) [Tab P] (fn : Func) (args : List Value) (σ : Hp) : Res (Value × Hp) :=
  match decide (fn.origin = "") with
  | false => .no "extern: an instance"
  | true => match fn.name, args with
    | "internal/abi.NoEscape", [x] => .ok (x, σ)
    | "internal/bytealg.MakeNoZero", [.int .i64 n] => madeNoZero P fn n σ
    | "internal/bytealg.Compare", [a, b] => match Res.bind (bytesOf σ a) fun x => (bytesOf σ b).bind fun y => Res.ok (x, y) with
      | .ok (x, y) => .ok (goInt (Extern.BytealgCompare.cmp ⟨x.toArray⟩ ⟨y.toArray⟩), σ)
      | .no _ => (charsOf σ a).bind fun x => (charsOf σ b).bind fun y => (need (Tab.cmp P x y) "compare").bind fun c => .ok (goInt c, σ)
    | _, _ => .no "extern"

/-- What is known of some calls beforehand. -/
abbrev Oracle := FuncId → List Value → Hp → Option Value

def callStep (P : Program) [Tab P] (R : Rec) (O : Oracle) (f : FuncId) (args : List Value) (σ : Hp) : Res (Value × Hp) :=
  match O f args σ with
  | some v => .ok (v, σ)
  | none => (need P.funcs[f]? "no such function").bind fun fn => match fn.body with
    | none => extern P fn args σ
    | some c => (R.code none f c ⟨Fr.of args (max args.length fn.ntmps), []⟩ σ).bind fun r =>
      match r.1 with
      | .exit _ => .no "exit"
      | _ => (unmark r.2.1.marks r.2.2).bind fun σ' => (resultsOf P r.2.1.fr σ' fn.results.toList).bind fun vs =>
        match vs with
        | [v] => .ok (v, σ')
        | _ => .ok (.tuple vs.toArray, σ')

def go (P : Program) [Tab P] (O : Oracle) : Nat → Rec
  | 0 => ⟨fun _ _ _ _ _ => .no "fuel", fun _ _ _ => .no "fuel", fun _ _ _ => .no "fuel"⟩
  | n + 1 => ⟨codeStep P (go P O n), callStep P (go P O n) O, valueStep (go P O n)⟩

end Go.Cx
