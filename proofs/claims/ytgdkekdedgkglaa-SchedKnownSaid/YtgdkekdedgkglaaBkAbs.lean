/- The deterministic heap semantics: definitions. -/
import Derived.Calls
import Derived.LoopN
import Derived.Scope
import Derived.Orders
import Derived.Below
namespace Go.Abs

inductive T (α : Type) where
  | nil
  | node (l : T α) (v : Option α) (r : T α)

namespace T
variable {α : Type}
def get? : T α → Nat → Option α
  | nil, _ => none
  | node l v r, n =>
    match Nat.beq n 0 with
    | true => v
    | false =>
      match Nat.beq (n % 2) 1 with
      | true => l.get? (n / 2)
      | false => r.get? (n / 2 - 1)

def setF : Nat → T α → Nat → α → T α
  | 0, t, _, _ => t
  | f + 1, nil, n, a =>
    match Nat.beq n 0 with
    | true => node nil (some a) nil
    | false =>
      match Nat.beq (n % 2) 1 with
      | true => node (setF f nil (n / 2) a) none nil
      | false => node nil none (setF f nil (n / 2 - 1) a)
  | f + 1, node l v r, n, a =>
    match Nat.beq n 0 with
    | true => node l (some a) r
    | false =>
      match Nat.beq (n % 2) 1 with
      | true => node (setF f l (n / 2) a) v r
      | false => node l v (setF f r (n / 2 - 1) a)

def set (t : T α) (n : Nat) (a : α) : T α := setF (n + 1) t n a

def setL (t : T α) (n : Nat) : List α → T α
  | [] => t
  | a :: l => setL (t.set n a) (n + 1) l

def ofList (l : List α) : T α := setL nil 0 l

end T

/-- A family of rows that may share one array: how often one was written in place; how far they reach; below where a string may share the bytes. -/
structure Fam where
  gen : Nat
  ext : Nat
  frz : Nat

inductive AObj where
  | var (cells : T Value) (n : Nat) (ro : Bool)
  | row (fam gen lo hi sz : Nat) (cells : T Value)
  | map (es : List (Value × Value))

structure AW where
  next : Nat
  objs : T AObj
  fams : T Fam

/-- Values without memory: they are related to themselves. -/
def flat : Value → Bool
  | .bool _ | .int _ _ | .string _ | .pointer none | .slice none _ _ | .map none | .nilFunc | .nilIface => true
  | .agg cs => flatL cs.toList
  | .tuple cs => flatL cs.toList
  | _ => false
  where
  flatL : List Value → Bool
    | [] => true
    | .bool _ :: l | .int _ _ :: l | .string _ :: l | .pointer none :: l | .slice none _ _ :: l | .map none :: l | .nilFunc :: l | .nilIface :: l => flatL l
    | _ => false

structure TI where
  und : TypeDesc
  agg : Bool
  size : Nat
  bytes : Nat
  zero : Option Value

def aggOf : TypeDesc → Bool
  | .struct _ | .array _ _ => true
  | _ => false

/-- What the semantics asks of a type: its zero value has its size, and holds no memory. -/
def tiOf (P : Program) (t : TypeId) : Option TI :=
  match P.info? t, P.underlying t with
  | some i, some u => some ⟨u, aggOf u, i.size, i.bytes, match i.zero with
      | some z => match flat z && Nat.beq z.cells.size i.size with | true => some z | false => none
      | none => none⟩
  | _, _ => none

def scalar : TypeDesc → Bool
  | .int _ | .string | .bool => true
  | _ => false

/-- A struct whose fields are numbers, strings and bools, one cell each, in their order. -/
def plainFields (P : Program) : Nat → List Field → Bool
  | _, [] => true
  | k, f :: l => match P.underlying f.type with
    | some d => f.name != "_" && Nat.beq f.offset k && scalar d && plainFields P (k + 1) l
    | none => false

/-- May values of a struct be held against each other cell by cell? -/
def plainEq (P : Program) (t : TypeId) (fs : Array Field) : Bool :=
  plainFields P 0 fs.toList && !P.stoodInHeld t && !P.eqGuardType P.depth t

structure Fr where
  n : Nat
  t : T Value

def Fr.ev (F : Fr) : Operand → Value
  | .tmp t => match F.t.get? t with | some v => v | none => undef
  | .const v => v
  | .global g => .pointer (some ⟨g, 0, none⟩)
  | .func f => .func (.func f) #[] #[]

def Fr.put (F : Fr) (d : Option Tmp) (v : Value) : Option Fr :=
  match d with
  | none => some F
  | some d => match Nat.ble (d + 1) F.n with
    | true => some { F with t := F.t.set d v }
    | false => none

/-- One cell. -/
def AW.rd (h : AW) (i off : Nat) : Option Value :=
  match h.objs.get? i with
  | some (.var cs n _) => match Nat.ble (off + 1) n with | true => cs.get? off | false => none
  | some (.row f g lo hi sz cs) =>
    match h.fams.get? f with
    | some fm => match Nat.beq fm.gen g && Nat.ble lo off && Nat.ble (off + 1) hi with | true => cs.get? off | false => none
    | none => none
  | _ => none

def AW.rdN (h : AW) (i : Nat) : Nat → Nat → Option (List Value)
  | _, 0 => some []
  | off, n + 1 => match h.rd i off with
    | some v => match h.rdN i (off + 1) n with
      | some l => some (v :: l)
      | none => none
    | none => none

def oneCell : Value → Bool
  | .agg _ | .tuple _ => false
  | _ => true

def AW.wr (h : AW) (i off : Nat) (v : Value) : Option AW :=
  match oneCell v with
  | false => none
  | true =>
  match h.objs.get? i with
  | some (.var cs n false) => match Nat.ble (off + 1) n with
    | true => some { h with objs := h.objs.set i (.var (cs.set off v) n false) }
    | false => none
  | some (.row f g lo hi sz cs) =>
    match h.fams.get? f with
    | some fm => match Nat.beq fm.gen g && Nat.ble lo off && Nat.ble (off + 1) hi && Nat.ble fm.frz off with
      | true => some { h with objs := h.objs.set i (.row f (g + 1) lo hi sz (cs.set off v)), fams := h.fams.set f { fm with gen := g + 1 } }
      | false => none
    | none => none
  | _ => none

def AW.wrL (h : AW) (i off : Nat) : List Value → Option AW
  | [] => some h
  | v :: l => match h.wr i off v with
    | some h => h.wrL i (off + 1) l
    | none => none

def allOne : List Value → Bool
  | [] => true
  | v :: l => match oneCell v with | true => allOne l | false => false

/-- A new block of known size. -/
def AW.newVar (h : AW) (cells : List Value) : Option (Nat × AW) :=
  match allOne cells with
  | true => some (h.next, { h with next := h.next + 1, objs := h.objs.set h.next (.var (T.ofList cells) cells.length false) })
  | false => none

def AW.newMap (h : AW) : Nat × AW := (h.next, { h with next := h.next + 1, objs := h.objs.set h.next (.map []) })

def ptr (i off : Nat) : Value := .pointer (some ⟨i, off, none⟩)

variable (P : Program)

def loadV (h : AW) (t : TypeId) : Value → Option Value
  | .pointer (some ⟨i, off, none⟩) =>
    match tiOf P t with
    | some ti => match ti.agg with
      | true => match h.rdN i off ti.size with
        | some l => some (.agg ⟨l⟩)
        | none => none
      | false => h.rd i off
    | none => none
  | _ => none

def storeV (h : AW) (t : TypeId) (a v : Value) : Option AW :=
  match a with
  | .pointer (some ⟨i, off, none⟩) =>
    match tiOf P t with
    | some ti => match v with
      | .agg cs => match Nat.beq cs.size ti.size with
        | true => h.wrL i off cs.toList
        | false => none
      | v => match Nat.beq ti.size 1 with
        | true => h.wr i off v
        | false => none
    | none => none
  | _ => none

def partV (t : TypeId) (cs : Array Value) (off : Nat) : Option Value :=
  match tiOf P t with
  | some ti => match ti.agg with
    | true => some (.agg (cs.extract off (off + ti.size)))
    | false => cs[off]?
  | none => none

def vals (F : Fr) (l : Array Operand) : List Value := l.toList.map F.ev

def intBin (op : BinOp) (k : IntKind) (x y : Int) : Option Value :=
  match op with
  | .add => some (.int k (k.wrap (x + y)))
  | .sub => some (.int k (k.wrap (x - y)))
  | .mul => some (.int k (k.wrap (x * y)))
  | .quo => if y = 0 then none else some (.int k (k.wrap (x.tdiv y)))
  | .rem => if y = 0 then none else some (.int k (x.tmod y))
  | .eql => some (.bool (x == y))
  | .neq => some (.bool (x != y))
  | .lss => some (.bool (x < y))
  | .leq => some (.bool (x ≤ y))
  | .gtr => some (.bool (x > y))
  | .geq => some (.bool (x ≥ y))
  | .and => some (.int k (k.wrap (BitVec.ofInt k.bits x &&& BitVec.ofInt k.bits y).toNat))
  | .or => some (.int k (k.wrap (BitVec.ofInt k.bits x ||| BitVec.ofInt k.bits y).toNat))
  | .xor => some (.int k (k.wrap (BitVec.ofInt k.bits x ^^^ BitVec.ofInt k.bits y).toNat))
  | .andNot => some (.int k (k.wrap (BitVec.ofInt k.bits x &&& ~~~ BitVec.ofInt k.bits y).toNat))
  | _ => none

def strBin (op : BinOp) (x y : ByteArray) : Option Value :=
  match op with
  | .add => match Nat.ble (x.size + y.size) 9223372036854775807 with
    | true => some (.string (x ++ y))
    | false => none
  | .eql => some (.bool (x.data.toList == y.data.toList))
  | .neq => some (.bool !(x.data.toList == y.data.toList))
  | .lss => some (.bool (Op.bytesLess x.data.toList y.data.toList))
  | .leq => some (.bool (Op.bytesLess x.data.toList y.data.toList || x.data.toList == y.data.toList))
  | .gtr => some (.bool !(Op.bytesLess x.data.toList y.data.toList || x.data.toList == y.data.toList))
  | .geq => some (.bool !(Op.bytesLess x.data.toList y.data.toList))
  | _ => none

def cellEq : Value → Value → Option Bool
  | .bool a, .bool b => some (a == b)
  | .int k a, .int k' b => if k = k' then some (a == b) else none
  | .string a, .string b => some (a.data.toList == b.data.toList)
  | _, _ => none

def cellFits : TypeDesc → Value → Bool
  | .bool, .bool _ => true
  | .int _, .int _ _ => true
  | .string, .string _ => true
  | _, _ => false

/-- Two plain structs, cell by cell. -/
def fieldsEq : List Field → List Value → List Value → Option Bool
  | [], [], [] => some true
  | f :: fs, x :: xs, y :: ys => match P.underlying f.type with
    | some d => match cellFits d x with
      | true => match cellEq x y with
        | some true => fieldsEq fs xs ys
        | some false => some false
        | none => none
      | false => none
    | none => none
  | _, _, _ => none

def isConst : Operand → Bool
  | .const _ => true
  | _ => false

/-- Equality where it says something of memory: against nil, of one pointer with itself; of plain structs. -/
def eqV (t : TypeId) (lit : Bool) (x y : Value) : Option Bool :=
  match tiOf P t with
  | some ti => match ti.und, x, y with
    | .bool, .bool a, .bool b => some (a == b)
    | .pointer _, .pointer none, .pointer b => some b.isNone
    | .pointer _, .pointer (some _), .pointer none => some false
    | .pointer e, .pointer (some ⟨i, off, none⟩), .pointer (some ⟨j, off', none⟩) => match Nat.beq i j && Nat.beq off off' && (tiOf P e).isSome with | true => some true | false => none
    | .interface _, .nilIface, .nilIface => match lit with | true => some true | false => none
    | .interface _, .nilIface, .iface _ _ => some false
    | .interface _, .iface _ _, .nilIface => some false
    | .interface _, .iface t _, .iface u _ => if t = u then none else some false
    | .slice _, .slice none _ _, .slice b _ _ => some b.isNone
    | .slice _, .slice (some _) _ _, .slice none _ _ => some false
    | .map _ _, .map none, .map b => some b.isNone
    | .map _ _, .map (some _), .map none => some false
    | .func _ _ _, .nilFunc, .nilFunc => some true
    | .func _ _ _, .nilFunc, .func _ _ _ => some false
    | .func _ _ _, .func _ _ _, .nilFunc => some false
    | .struct fs, .agg xs, .agg ys => match plainEq P t fs with | true => fieldsEq P fs.toList xs.toList ys.toList | false => none
    | _, _, _ => none
  | none => none

def binV (op : BinOp) (t : TypeId) (lit : Bool) (x y : Value) : Option Value :=
  match op, x, y with
  | .shl, .int k a, .int _ b => if b < 0 then none else some (.int k (k.wrap (a * 2 ^ (min b.toNat k.bits))))
  | .shr, .int k a, .int _ b => if b < 0 then none else some (.int k (a.fdiv (2 ^ (min b.toNat k.bits))))
  | op, .int k a, .int k' b => if k = k' then intBin op k a b else none
  | op, .string a, .string b => strBin op a b
  | .eql, x, y => match eqV P t lit x y with | some b => some (.bool b) | none => none
  | .neq, x, y => match eqV P t lit x y with | some b => some (.bool !b) | none => none
  | _, _, _ => none

def unV (op : UnOp) (x : Value) : Option Value :=
  match op, x with
  | .not, .bool b => some (.bool !b)
  | .neg, .int k n => some (.int k (k.wrap (0 - n)))
  | .xor, .int k n => intBin .xor k (if k.signed then -1 else k.max) n
  | _, _ => none

def bytesV : List Value → Option (List UInt8)
  | [] => some []
  | .int .u8 n :: l => match bytesV l with | some r => some (UInt8.ofNat n.toNat :: r) | none => none
  | _ => none

def ofBytes (l : List UInt8) : List Value := l.map fun b => .int .u8 b.toNat

/-- A new row whose array may be larger than is told. -/
def AW.newRow (h : AW) (sz : Nat) (cells : List Value) : Option (Nat × AW) :=
  match allOne cells with
  | true => some (h.next, { next := h.next + 2, objs := h.objs.set h.next (.row (h.next + 1) 0 0 cells.length sz (T.ofList cells)), fams := h.fams.set (h.next + 1) ⟨0, cells.length, 0⟩ })
  | false => none

def convQ (h : AW) (src dst : TypeId) (x : Value) : Option Value :=
  match tiOf P src, tiOf P dst with
  | some s, some d =>
    match d.und, x with
    | .int k, .int _ n => some (.int k (k.wrap n))
    | .string, .int _ n => some (.string (Utf8.encode n))
    | .string, .string b => some (.string b)
    | .string, .slice none _ _ => match s.und with
      | .slice e => match tiOf P e with
        | some te => match te.und with
          | .int .u8 => some (.string .empty)
          | _ => none
        | none => none
      | _ => none
    | .string, .slice (some ⟨i, off, none⟩) len _ => match s.und with
      | .slice e => match tiOf P e with
        | some te => match te.und with
          | .int .u8 => match h.rdN i off len with
            | some l => match bytesV l with
              | some bs => some (.string ⟨⟨bs⟩⟩)
              | none => none
            | none => none
          | _ => none
        | none => none
      | _ => none
    | _, _ => none
  | _, _ => none

def convA (h : AW) (src dst : TypeId) (x : Value) : Option (Value × AW) :=
  match tiOf P src, tiOf P dst with
  | some _, some d =>
    match d.und, x with
    | .slice e, .string b => match tiOf P e with
      | some te => match te.und with
        | .int .u8 => match h.newRow 1 (ofBytes b.data.toList) with
          | some (i, h) => some (.slice (some ⟨i, 0, none⟩) b.size b.size, h)
          | none => none
        | _ => none
      | none => none
    | _, _ => none
  | _, _ => none

def idx (x : Value) (n : Nat) : Option Nat :=
  match x with
  | .int _ (.ofNat i) => match Nat.ble (i + 1) n with | true => some i | false => none
  | _ => none
def bnd (x : Value) (n : Nat) : Option Nat :=
  match x with
  | .int _ (.ofNat i) => match Nat.ble i n with | true => some i | false => none
  | _ => none
def bndO (x : Option Value) (n dflt : Nat) : Option Nat :=
  match x with
  | none => some dflt
  | some x => bnd x n

def indexAddrV (t : TypeId) (x i : Value) : Option Value :=
  match tiOf P t with
  | some ti => match ti.und, x with
    | .array len elem, .pointer (some ⟨b, off, none⟩) => match idx i len, tiOf P elem with
      | some i, some te => some (ptr b (off + i * te.size))
      | _, _ => none
    | .slice elem, .slice (some ⟨b, off, none⟩) len _ => match idx i len, tiOf P elem with
      | some i, some te => some (ptr b (off + i * te.size))
      | _, _ => none
    | _, _ => none
  | none => none

def indexV (t : TypeId) (x i : Value) : Option Value :=
  match tiOf P t with
  | some ti => match ti.und, x with
    | .array len elem, .agg cs => match idx i len, tiOf P elem with
      | some i, some te => partV P elem cs (i * te.size)
      | _, _ => none
    | .string, .string s => match idx i s.size with
      | some i => match s.data[i]? with
        | some b => some (.int .u8 b.toNat)
        | none => none
      | none => none
    | _, _ => none
  | none => none

def sliceQ (h : AW) (t : TypeId) (x : Value) (lo hi : Option Value) : Option Value :=
  match tiOf P t with
  | some ti => match ti.und, x with
    | .string, .string s => match bndO hi s.size s.size with
      | some hi => match bndO lo hi 0 with
        | some lo => some (.string ⟨⟨(s.data.toList.drop lo).take (hi - lo)⟩⟩)
        | none => none
      | none => none
    | .slice elem, .slice a len cap => match bndO hi cap len with
      | some hi => match bndO lo hi 0, tiOf P elem, Nat.ble hi cap with
        | some l, some te, true => match a with
          | some ⟨b, off, none⟩ => some (.slice (some ⟨b, off + l * te.size, none⟩) (hi - l) (cap - l))
          | some _ => none
          | none => some (.slice none (hi - l) (cap - l))
        | _, _, _ => none
      | none => none
    | .array n elem, .pointer (some ⟨b, off, none⟩) => match bndO hi n n with
      | some hi => match bndO lo hi 0, tiOf P elem, h.objs.get? b with
        | some l, some te, some (.var _ _ _) => some (.slice (some ⟨b, off + l * te.size, none⟩) (hi - l) (n - l))
        | _, _, _ => none
      | none => none
    | _, _ => none
  | none => none

/-- A slice that is left without room: a new empty block stands for it. -/
def sliceA (h : AW) (t : TypeId) (x : Value) (lo hi : Option Value) (mx : Value) : Option (Value × AW) :=
  match tiOf P t with
  | some ti => match ti.und, x, hi with
    | .slice elem, .slice a _ cap, some hi => match bnd mx cap with
      | some m => match bnd hi m with
        | some hi => match bndO lo hi 0 with
          | some l => match Nat.beq m l with
            | true => match tiOf P elem with
             | none => none
             | some _ => match a with
              | some ⟨_, _, none⟩ => some (.slice (some ⟨h.next, 0, none⟩) 0 0, { h with next := h.next + 1, objs := h.objs.set h.next (.var .nil 0 true) })
              | some _ => none
              | none => some (.slice none 0 0, h)
            | false => none
          | none => none
        | none => none
      | none => none
    | _, _, _ => none
  | none => none

def fieldAddrV (t : TypeId) (x : Value) (f : Nat) : Option Value :=
  match tiOf P t, x with
  | some ti, .pointer (some ⟨b, off, none⟩) => match ti.und with
    | .struct fs => match fs[f]? with
      | some fd => match tiOf P fd.type with
        | some tf => match Nat.beq tf.size 0 with
          | true => none
          | false => some (ptr b (off + fd.offset))
        | none => none
      | none => none
    | _ => none
  | _, _ => none

def fieldV (t : TypeId) (x : Value) (f : Nat) : Option Value :=
  match tiOf P t, x with
  | some ti, .agg cs => match ti.und with
    | .struct fs => match fs[f]? with
      | some fd => partV P fd.type cs fd.offset
      | none => none
    | _ => none
  | _, _ => none

def placesOf (fs : List Field) : Option (List (Nat × Nat)) :=
  match fs with
  | [] => some []
  | f :: l => match tiOf P f.type, placesOf l with
    | some tf, some r => some ((f.offset, tf.size) :: r)
    | _, _ => none

def buildV (t : TypeId) (parts : List (Nat × Value)) : Option Value :=
  match tiOf P t with
  | some ti => match ti.zero with
    | some z => match ti.und with
      | .struct fs => match placesOf P fs.toList with
        | some pl => match Instr.fill (fun i => pl[i]?) z.cells parts with
          | some cs => some (.agg cs)
          | none => none
        | none => none
      | .array _ elem => match tiOf P elem with
        | some te => match Instr.fill (fun i => some (i * te.size, te.size)) z.cells parts with
          | some cs => some (.agg cs)
          | none => none
        | none => none
      | _ => none
    | none => none
  | none => none

def rep (l : List Value) : Nat → List Value
  | 0 => []
  | n + 1 => l ++ rep l n

def buildSliceV (h : AW) (t : TypeId) (len : Nat) (parts : List (Nat × Value)) : Option (Value × AW) :=
  match tiOf P t with
  | some ti => match ti.und with
    | .slice elem => match tiOf P elem with
      | some te => match te.zero, Nat.ble (len * te.size) 16777216 with
        | some z, true => match Nat.beq z.cells.size te.size with
          | true => match Instr.fill (fun i => some (i * te.size, te.size)) ⟨rep z.cells.toList len⟩ parts with
            | some cs => match h.newVar cs.toList with
              | some (i, h) => some (.slice (some ⟨i, 0, none⟩) len len, h)
              | none => none
            | none => none
          | false => none
        | _, _ => none
      | none => none
    | _ => none
  | none => none

def makeSliceV (h : AW) (t : TypeId) (len cap : Value) : Option (Value × AW) :=
  match tiOf P t, len, cap with
  | some ti, .int _ (.ofNat l), .int _ (.ofNat c) => match ti.und with
    | .slice elem => match tiOf P elem with
      | some te => match te.zero, Nat.ble l c && Nat.ble (c * te.bytes) 140737488355328 && Nat.ble c 9223372036854775807 with
        | some z, true => match Nat.beq z.cells.size te.size with
          | true => match h.newVar (rep z.cells.toList c) with
            | some (i, h) => some (.slice (some ⟨i, 0, none⟩) l c, h)
            | none => none
          | false => none
        | _, _ => none
      | none => none
    | _ => none
  | _, _, _ => none

/-- Bound on an append's bytes. -/
def roomy (n b : Nat) : Bool := Nat.ble (n * b) 70368744177664

def nextGen (ext e g : Nat) : Nat := match Nat.ble ext e with | true => g | false => g + 1

def appendV (h : AW) (elem : TypeId) (s : Value) (n : Nat) (new : List Value) : Option (Value × AW) :=
  match tiOf P elem, s with
  | some te, .slice base len cap =>
    match Nat.beq new.length (n * te.size) with
    | false => none
    | true => match Nat.ble (len + n) cap with
      | true => match base with
        | some ⟨i, off, none⟩ => match h.wrL i (off + len * te.size) new with
          | some h => some (.slice (some ⟨i, off, none⟩) (len + n) cap, h)
          | none => none
        | some _ => none
        | none => some (.slice none (len + n) cap, h)
      | false => match roomy (len + n) te.bytes && Nat.ble (len + n) 4611686018427387904 && allOne new && te.zero.isSome with
        | false => none
        | true => match base with
          | none => match Nat.beq len 0, h.newRow te.size new with
            | true, some (j, h) => some (.slice (some ⟨j, 0, none⟩) n n, h)
            | _, _ => none
          | some ⟨i, off, none⟩ => match h.objs.get? i with
            | some (.var _ _ _) => match h.rdN i off (len * te.size) with
              | some old => match h.newRow te.size (old ++ new) with
                | some (j, h) => some (.slice (some ⟨j, 0, none⟩) (len + n) (len + n), h)
                | none => none
              | none => none
            | some (.row f g lo hi sz cs) => match h.fams.get? f with
              | some fm =>
                match Nat.beq fm.gen g && Nat.ble lo off && Nat.beq sz te.size && Nat.ble (off + len * sz) hi && Nat.beq (off + cap * sz) hi && Nat.ble fm.frz (off + len * sz) with
                | true =>
                  some (.slice (some ⟨h.next, off, none⟩) (len + n) (len + n),
                    { next := h.next + 1,
                      objs := h.objs.set h.next (.row f (nextGen fm.ext (off + len * sz) g) off (off + len * sz + new.length) sz (cs.setL (off + len * sz) new)),
                      fams := h.fams.set f { fm with gen := (nextGen fm.ext (off + len * sz) g), ext := off + len * sz + new.length } })
                | false => none
              | none => none
            | _ => none
          | some _ => none
  | _, _ => none

def isInt : TypeDesc → Bool
  | .int _ => true
  | _ => false

def appendB (h : AW) (argTypes : Array TypeId) (args : List Value) : Option (Value × AW) :=
  match argTypes.toList, args with
  | [ts, tx], [s, x] => match tiOf P ts, tiOf P tx with
    | some ti, some tj => match ti.und with
      | .slice elem => match tiOf P elem with
        | some te => match isInt tj.und with
          | false => match x with
            | .slice none n _ => match Nat.beq n 0 with
              | true => appendV P h elem s 0 []
              | false => none
            | .slice (some ⟨i, off, none⟩) n _ => match h.rdN i off (n * te.size) with
              | some l => appendV P h elem s n l
              | none => none
            | .string b => appendV P h elem s b.size (ofBytes b.data.toList)
            | _ => none
          | true => match x, te.zero, tj.und with
            | .int .i64 (.ofNat n), some z, .int .i64 => match Nat.ble (n * te.bytes) 281474976710656 && Nat.ble n 9223372036854775807 with
              | true => appendV P h elem s n (rep z.cells.toList n)
              | false => none
            | _, _, _ => none
        | none => none
      | _ => none
    | _, _ => none
  | _, _ => none

def copyB (h : AW) (argTypes : Array TypeId) (args : List Value) : Option (Value × AW) :=
  match argTypes.toList, args with
  | td :: _, [.slice base dlen _, src] => match tiOf P td with
    | some ti => match ti.und with
      | .slice elem => match tiOf P elem with
        | some te =>
          match (match src with
            | .slice none n _ => (match Nat.beq n 0 with | true => some (0, []) | false => none)
            | .slice (some ⟨i, off, none⟩) n _ => match h.rdN i off (Nat.min n dlen * te.size) with
              | some l => some (Nat.min n dlen, l)
              | none => none
            | .string b => some (Nat.min b.size dlen, ofBytes (b.data.toList.take (Nat.min b.size dlen)))
            | _ => none) with
          | some (n, l) => match base with
            | none => some (goInt n, h)
            | some ⟨i, off, none⟩ => match h.wrL i off l with
              | some h => some (goInt n, h)
              | none => none
            | some _ => none
          | none => none
        | none => none
      | _ => none
    | none => none
  | _, _ => none

def lenB (h : AW) (argTypes : Array TypeId) (args : List Value) : Option Value :=
  match argTypes.toList, args with
  | [t], [x] => match tiOf P t with
    | some ti => match ti.und, x with
      | .string, .string s => some (goInt s.size)
      | .array n _, _ => some (goInt n)
      | .pointer arr, _ => match tiOf P arr with
        | some ta => match ta.und with
          | .array n _ => some (goInt n)
          | _ => none
        | none => none
      | .slice _, .slice _ n _ => some (goInt n)
      | .map _ _, .map none => some (goInt 0)
      | .map _ _, .map (some r) => match h.objs.get? r with
        | some (.map es) => some (goInt es.length)
        | _ => none
      | _, _ => none
    | none => none
  | _, _ => none

def capB (h : AW) (argTypes : Array TypeId) (args : List Value) : Option Value :=
  match argTypes.toList, args with
  | [t], [x] => match tiOf P t with
    | some ti => match ti.und, x with
      | .slice _, .slice none _ n => some (goInt n)
      | .slice _, .slice (some ⟨i, _, _⟩) _ n => match h.objs.get? i with
        | some (.var _ _ _) => some (goInt n)
        | _ => none
      | _, _ => none
    | none => none
  | _, _ => none

def minL : Value → List Value → Option Value
  | x, [] => some x
  | .int k x, .int _ y :: l => minL (.int k (if y < x then y else x)) l
  | .string x, .string y :: l => minL (.string (if Op.bytesLess x.data.toList y.data.toList || x.data.toList == y.data.toList then x else y)) l
  | _, _ => none
def maxL : Value → List Value → Option Value
  | x, [] => some x
  | .int k x, .int _ y :: l => maxL (.int k (if y > x then y else x)) l
  | .string x, .string y :: l => maxL (.string (if !(Op.bytesLess x.data.toList y.data.toList) then x else y)) l
  | _, _ => none

def keyKind : TypeDesc → Bool
  | .int _ | .string | .bool => true
  | _ => false

def look (kind : TypeDesc) (k : Value) : List (Value × Value) → Option (Option Value)
  | [] => some none
  | (k', v) :: l => match Instr.sameNow kind k k' with
    | some true => some (some v)
    | some false => look kind k l
    | none => none

def upd (kind : TypeDesc) (k v : Value) : List (Value × Value) → Option (List (Value × Value))
  | [] => some [(k, v)]
  | (k', v') :: l => match Instr.sameNow kind k k' with
    | some true => some ((k, v) :: l)
    | some false => match upd kind k v l with | some r => some ((k', v') :: r) | none => none
    | none => none

def del (kind : TypeDesc) (k : Value) : List (Value × Value) → Option (List (Value × Value))
  | [] => some []
  | (k', v') :: l => match Instr.sameNow kind k k' with
    | some true => some l
    | some false => match del kind k l with | some r => some ((k', v') :: r) | none => none
    | none => none

def lookupV (h : AW) (t : TypeId) (m k : Value) (commaOk : Bool) : Option Value :=
  match tiOf P t with
  | some ti => match ti.und with
    | .map kt et => match tiOf P kt, tiOf P et with
      | some tk, some te => match keyKind tk.und, te.zero with
        | true, some z =>
          let r := match m with
            | .map none => some none
            | .map (some r) => match h.objs.get? r with
              | some (.map es) => look tk.und k es
              | _ => none
            | _ => none
          match r with
          | some (some v) => some (match commaOk with | true => .tuple #[v, .bool true] | false => v)
          | some none => some (match commaOk with | true => .tuple #[z, .bool false] | false => z)
          | none => none
        | _, _ => none
      | _, _ => none
    | _ => none
  | none => none

def mapUpdV (h : AW) (t : TypeId) (m k v : Value) : Option AW :=
  match tiOf P t, m with
  | some ti, .map (some r) => match ti.und with
    | .map kt _ => match tiOf P kt with
      | some tk => match keyKind tk.und, h.objs.get? r with
        | true, some (.map es) => match upd tk.und k v es with
          | some es => some { h with objs := h.objs.set r (.map es) }
          | none => none
        | _, _ => none
      | none => none
    | _ => none
  | _, _ => none

def deleteB (h : AW) (argTypes : Array TypeId) (args : List Value) : Option (Value × AW) :=
  match argTypes.toList, args with
  | t :: _, [m, k] => match tiOf P t with
    | some ti => match ti.und, m with
      | .map kt _, .map (some r) => match tiOf P kt with
        | some tk => match keyKind tk.und, h.objs.get? r with
          | true, some (.map es) => match del tk.und k es with
            | some es => some (.tuple #[], { h with objs := h.objs.set r (.map es) })
            | none => none
          | _, _ => none
        | none => none
      | _, _ => none
    | none => none
  | _, _ => none

def clearB (h : AW) (argTypes : Array TypeId) (args : List Value) : Option (Value × AW) :=
  match argTypes.toList, args with
  | [t], [x] => match tiOf P t with
    | some ti => match x with
      | .map none => some (.tuple #[], h)
      | .slice none _ _ => some (.tuple #[], h)
      | .map (some r) => match h.objs.get? r with
        | some (.map _) => some (.tuple #[], { h with objs := h.objs.set r (.map []) })
        | _ => none
      | .slice (some ⟨i, off, none⟩) n _ => match ti.und with
        | .slice elem => match tiOf P elem with
          | some te => match te.zero with
            | some z => match h.wrL i off (rep z.cells.toList n) with
              | some h => some (.tuple #[], h)
              | none => none
            | none => none
          | none => none
        | _ => none
      | _ => none
    | none => none
  | _, _ => none

def builtinQ (h : AW) (b : Builtin) (argTypes : Array TypeId) (args : List Value) : Option Value :=
  match b with
  | .len => lenB P h argTypes args
  | .cap => capB P h argTypes args
  | .min => match args with | x :: l => minL x l | [] => none
  | .max => match args with | x :: l => maxL x l | [] => none
  | _ => none

def builtinA (h : AW) (b : Builtin) (argTypes : Array TypeId) (args : List Value) : Option (Value × AW) :=
  match b with
  | .append => appendB P h argTypes args
  | .copy => copyB P h argTypes args
  | .delete => deleteB P h argTypes args
  | .clear => clearB P h argTypes args
  | _ => none

def nilCheckV : Value → Option Value
  | .pointer none | .nilIface | .nilFunc => none
  | .func (.method _) _ _ => none
  | x => some x

/-- An operation that leaves the heap alone. -/
def opQ (F : Fr) (h : AW) (o : Op) : Option Value :=
  match o with
  | .move x | .assign x => some (F.ev x)
  | .pick c a b => match F.ev c with | .bool true => some (F.ev a) | .bool false => some (F.ev b) | _ => none
  | .build t parts => buildV P t (parts.toList.map fun p => (p.1, F.ev p.2))
  | .load t a => loadV P h t (F.ev a)
  | .nilCheck x => nilCheckV (F.ev x)
  | .binOp op t x y _ => binV P op t (isConst x || isConst y) (F.ev x) (F.ev y)
  | .unOp op _ x => unV op (F.ev x)
  | .convert s d x => convQ P h s d (F.ev x)
  | .makeInterface t x => match tiOf P t with
    | some ti => match ti.und with | .interface _ => none | _ => some (.iface t (F.ev x))
    | none => none
  | .makeFunc fn first captured => some (.func fn ⟨vals F first⟩ ⟨vals F captured⟩)
  | .slice t x lo hi none => sliceQ P h t (F.ev x) (lo.map F.ev) (hi.map F.ev)
  | .fieldAddr t x f => fieldAddrV P t (F.ev x) f
  | .field t x f => fieldV P t (F.ev x) f
  | .indexAddr t x i => indexAddrV P t (F.ev x) (F.ev i)
  | .index t x i => indexV P t (F.ev x) (F.ev i)
  | .lookup t m k ok => lookupV P h t (F.ev m) (F.ev k) ok
  | .extract x i => match F.ev x with | .tuple vs => vs[i]? | _ => none
  | .call { callee := .builtin b, args, argTypes } => builtinQ P h b argTypes (vals F args)
  | _ => none

/-- An operation that may turn the heap, and is no call of a function. -/
def opA (F : Fr) (h : AW) (o : Op) : Option (Value × AW) :=
  match o with
  | .alloc t => match tiOf P t with
    | some ti => match ti.zero with
      | some z => match h.newVar z.cells.toList with | some (i, h) => some (ptr i 0, h) | none => none
      | none => none
    | none => none
  | .box _ x => match h.newVar (F.ev x).cells.toList with | some (i, h) => some (ptr i 0, h) | none => none
  | .buildSlice t len parts => buildSliceV P h t len (parts.toList.map fun p => (p.1, F.ev p.2))
  | .store t a x => match storeV P h t (F.ev a) (F.ev x) with | some h => some (undef, h) | none => none
  | .convert s d x => convA P h s d (F.ev x)
  | .makeMap _ none => some (.map (some h.newMap.1), h.newMap.2)
  | .makeMap t (some x) => match tiOf P t, F.ev x with
    | some ti, .int _ _ => match ti.und with
      | .map _ _ => some (.map (some h.newMap.1), h.newMap.2)
      | _ => none
    | _, _ => none
  | .makeSlice t l c => makeSliceV P h t (F.ev l) (F.ev c)
  | .slice t x lo hi (some mx) => sliceA P h t (F.ev x) (lo.map F.ev) (hi.map F.ev) (F.ev mx)
  | .mapUpdate t m k v | .insert t m k v => match mapUpdV P h t (F.ev m) (F.ev k) (F.ev v) with | some h => some (undef, h) | none => none
  | .call { callee := .builtin b, args, argTypes } => builtinA P h b argTypes (vals F args)
  | _ => none

/-- One operation that is no call of a function. -/
def opV (F : Fr) (h : AW) (o : Op) : Option (Value × AW) :=
  match opQ P F h o with
  | some v => some (v, h)
  | none => opA P F h o


end Go.Abs
