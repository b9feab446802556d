/- A deterministic heap for the model, proved sound, and walks of the program over it: part 1. No condition. -/
import Derived.Calls
import Derived.LoopN
import Derived.Scope
import Derived.Orders
import Derived.Below
import Derived.MapKept
import Derived.Laws.Rows
import Derived.Laws.Append
import Derived.Laws.Small
import Derived.WalkSmall
set_option linter.unusedVariables false
set_option linter.unusedSimpArgs false
set_option linter.unusedSectionVars false
section
/- The deterministic heap semantics: definitions. -/
namespace Go.Abs
inductive T (α : Type) where
  | nil
  | node (l : T α) (v : Option α) (r : T α)
namespace T
variable {α : Type}
def get? : T α → Nat → Option α
  | nil, _ => none
  | node l v r, n =>
    match Nat.beq n 0 with
    | true => v
    | false =>
      match Nat.beq (n % 2) 1 with
      | true => l.get? (n / 2)
      | false => r.get? (n / 2 - 1)
def setF : Nat → T α → Nat → α → T α
  | 0, t, _, _ => t
  | f + 1, nil, n, a =>
    match Nat.beq n 0 with
    | true => node nil (some a) nil
    | false =>
      match Nat.beq (n % 2) 1 with
      | true => node (setF f nil (n / 2) a) none nil
      | false => node nil none (setF f nil (n / 2 - 1) a)
  | f + 1, node l v r, n, a =>
    match Nat.beq n 0 with
    | true => node l (some a) r
    | false =>
      match Nat.beq (n % 2) 1 with
      | true => node (setF f l (n / 2) a) v r
      | false => node l v (setF f r (n / 2 - 1) a)
def set (t : T α) (n : Nat) (a : α) : T α := setF (n + 1) t n a
def setL (t : T α) (n : Nat) : List α → T α
  | [] => t
  | a :: l => setL (t.set n a) (n + 1) l
def ofList (l : List α) : T α := setL nil 0 l
end T
structure Fam where
  gen : Nat
  ext : Nat
  frz : Nat
inductive AObj where
  | var (cells : T Value) (n : Nat) (ro : Bool)
  | row (fam gen lo hi sz : Nat) (cells : T Value)
  | map (es : List (Value × Value))
structure AW where
  next : Nat
  objs : T AObj
  fams : T Fam
  tys : T TypeId
  its : T Nat
def flat : Value → Bool
  | .bool _ | .int _ _ | .string _ | .pointer none | .slice none _ _ | .map none | .nilFunc | .nilIface => true
  | .agg cs => flatL cs.toList
  | .tuple cs => flatL cs.toList
  | _ => false
  where
  flatL : List Value → Bool
    | [] => true
    | .bool _ :: l | .int _ _ :: l | .string _ :: l | .pointer none :: l | .slice none _ _ :: l | .map none :: l | .nilFunc :: l | .nilIface :: l => flatL l
    | _ => false
structure TI where
  und : TypeDesc
  agg : Bool
  size : Nat
  bytes : Nat
  zero : Option Value
def aggOf : TypeDesc → Bool
  | .struct _ | .array _ _ => true
  | _ => false
def tiOf (P : Program) (t : TypeId) : Option TI :=
  match P.info? t, P.underlying t with
  | some i, some u => some ⟨u, aggOf u, i.size, i.bytes, match i.zero with
      | some z => match flat z && Nat.beq z.cells.size i.size with | true => some z | false => none
      | none => none⟩
  | _, _ => none
def scalar : TypeDesc → Bool
  | .int _ | .string | .bool => true
  | _ => false
def plainFields (P : Program) : Nat → List Field → Bool
  | _, [] => true
  | k, f :: l => match P.underlying f.type with
    | some d => f.name != "_" && Nat.beq f.offset k && scalar d && plainFields P (k + 1) l
    | none => false
def plainEq (P : Program) (t : TypeId) (fs : Array Field) : Bool :=
  plainFields P 0 fs.toList && !P.stoodInHeld t && !P.eqGuardType P.depth t
structure Fr where
  n : Nat
  t : T Value
def Fr.ev (F : Fr) : Operand → Value
  | .tmp t => match F.t.get? t with | some v => v | none => undef
  | .const v => v
  | .global g => .pointer (some ⟨g, 0, none⟩)
  | .func f => .func (.func f) #[] #[]
def Fr.put (F : Fr) (d : Option Tmp) (v : Value) : Option Fr :=
  match d with
  | none => some F
  | some d => match Nat.ble (d + 1) F.n with
    | true => some { F with t := F.t.set d v }
    | false => none
def AW.rd (h : AW) (i off : Nat) : Option Value :=
  match h.objs.get? i with
  | some (.var cs n _) => match Nat.ble (off + 1) n with | true => cs.get? off | false => none
  | some (.row f g lo hi sz cs) =>
    match h.fams.get? f with
    | some fm => match Nat.beq fm.gen g && Nat.ble lo off && Nat.ble (off + 1) hi with | true => cs.get? off | false => none
    | none => none
  | _ => none
def AW.rdN (h : AW) (i : Nat) : Nat → Nat → Option (List Value)
  | _, 0 => some []
  | off, n + 1 => match h.rd i off with
    | some v => match h.rdN i (off + 1) n with
      | some l => some (v :: l)
      | none => none
    | none => none
def oneCell : Value → Bool
  | .agg _ | .tuple _ => false
  | _ => true
def AW.wr (h : AW) (i off : Nat) (v : Value) : Option AW :=
  match oneCell v with
  | false => none
  | true =>
  match h.objs.get? i with
  | some (.var cs n false) => match Nat.ble (off + 1) n with
    | true => some { h with objs := h.objs.set i (.var (cs.set off v) n false) }
    | false => none
  | some (.row f g lo hi sz cs) =>
    match h.fams.get? f with
    | some fm => match Nat.beq fm.gen g && Nat.ble lo off && Nat.ble (off + 1) hi && Nat.ble fm.frz off with
      | true => some { h with objs := h.objs.set i (.row f (g + 1) lo hi sz (cs.set off v)), fams := h.fams.set f { fm with gen := g + 1 } }
      | false => none
    | none => none
  | _ => none
def AW.wrL (h : AW) (i off : Nat) : List Value → Option AW
  | [] => some h
  | v :: l => match h.wr i off v with
    | some h => h.wrL i (off + 1) l
    | none => none
def allOne : List Value → Bool
  | [] => true
  | v :: l => match oneCell v with | true => allOne l | false => false
def AW.newVar (h : AW) (cells : List Value) : Option (Nat × AW) :=
  match allOne cells with
  | true => some (h.next, { h with next := h.next + 1, objs := h.objs.set h.next (.var (T.ofList cells) cells.length false) })
  | false => none
def AW.newIter (h : AW) : AW := { h with next := h.next + 1, its := h.its.set h.next 1 }
def AW.tag (h : AW) (i : Nat) (t : TypeId) : AW := { h with tys := h.tys.set i t }
def AW.tagAs (h : AW) (i : Nat) (o : Option TypeId) (t : TypeId) : AW :=
  match o with
  | some u => match Nat.beq u t with | true => h.tag i t | false => h
  | none => h
def AW.newMap (h : AW) : Nat × AW := (h.next, { h with next := h.next + 1, objs := h.objs.set h.next (.map []), its := h.its.set h.next 2 })
def AW.room (h : AW) (n : Nat) : AW := { h with next := h.next + n }
def AW.layMap (h : AW) (i : Nat) : AW := { h with objs := h.objs.set i (.map []), its := h.its.set i 2 }
def AW.layMaps (h : AW) (base : Nat) : List Nat → AW
  | [] => h
  | d :: l => (h.layMap (base + d)).layMaps base l
def ptr (i off : Nat) : Value := .pointer (some ⟨i, off, none⟩)
variable (P : Program)
def loadV (h : AW) (t : TypeId) : Value → Option Value
  | .pointer (some ⟨i, off, none⟩) =>
    match tiOf P t with
    | some ti => match ti.agg with
      | true => match h.rdN i off ti.size with
        | some l => some (.agg ⟨l⟩)
        | none => none
      | false => h.rd i off
    | none => none
  | _ => none
def storeV (h : AW) (t : TypeId) (a v : Value) : Option AW :=
  match a with
  | .pointer (some ⟨i, off, none⟩) =>
    match tiOf P t with
    | some ti => match v with
      | .agg cs => match Nat.beq cs.size ti.size with
        | true => h.wrL i off cs.toList
        | false => none
      | v => match Nat.beq ti.size 1 with
        | true => h.wr i off v
        | false => none
    | none => none
  | _ => none
def partV (t : TypeId) (cs : Array Value) (off : Nat) : Option Value :=
  match tiOf P t with
  | some ti => match ti.agg with
    | true => some (.agg (cs.extract off (off + ti.size)))
    | false => cs[off]?
  | none => none
def vals (F : Fr) (l : Array Operand) : List Value := l.toList.map F.ev
def intBin (op : BinOp) (k : IntKind) (x y : Int) : Option Value :=
  match op with
  | .add => some (.int k (k.wrap (x + y)))
  | .sub => some (.int k (k.wrap (x - y)))
  | .mul => some (.int k (k.wrap (x * y)))
  | .quo => if y = 0 then none else some (.int k (k.wrap (x.tdiv y)))
  | .rem => if y = 0 then none else some (.int k (x.tmod y))
  | .eql => some (.bool (x == y))
  | .neq => some (.bool (x != y))
  | .lss => some (.bool (x < y))
  | .leq => some (.bool (x ≤ y))
  | .gtr => some (.bool (x > y))
  | .geq => some (.bool (x ≥ y))
  | .and => some (.int k (k.wrap (BitVec.ofInt k.bits x &&& BitVec.ofInt k.bits y).toNat))
  | .or => some (.int k (k.wrap (BitVec.ofInt k.bits x ||| BitVec.ofInt k.bits y).toNat))
  | .xor => some (.int k (k.wrap (BitVec.ofInt k.bits x ^^^ BitVec.ofInt k.bits y).toNat))
  | .andNot => some (.int k (k.wrap (BitVec.ofInt k.bits x &&& ~~~ BitVec.ofInt k.bits y).toNat))
  | _ => none
def strBin (op : BinOp) (x y : ByteArray) : Option Value :=
  match op with
  | .add => match Nat.ble (x.size + y.size) 9223372036854775807 with
    | true => some (.string (x ++ y))
    | false => none
  | .eql => some (.bool (x.data.toList == y.data.toList))
  | .neq => some (.bool !(x.data.toList == y.data.toList))
  | .lss => some (.bool (Op.bytesLess x.data.toList y.data.toList))
  | .leq => some (.bool (Op.bytesLess x.data.toList y.data.toList || x.data.toList == y.data.toList))
  | .gtr => some (.bool !(Op.bytesLess x.data.toList y.data.toList || x.data.toList == y.data.toList))
  | .geq => some (.bool !(Op.bytesLess x.data.toList y.data.toList))
  | _ => none
def cellEq : Value → Value → Option Bool
  | .bool a, .bool b => some (a == b)
  | .int k a, .int k' b => if k = k' then some (a == b) else none
  | .string a, .string b => some (a.data.toList == b.data.toList)
  | _, _ => none
def cellFits : TypeDesc → Value → Bool
  | .bool, .bool _ => true
  | .int _, .int _ _ => true
  | .string, .string _ => true
  | _, _ => false
def fieldsEq : List Field → List Value → List Value → Option Bool
  | [], [], [] => some true
  | f :: fs, x :: xs, y :: ys => match P.underlying f.type with
    | some d => match cellFits d x with
      | true => match cellEq x y with
        | some true => fieldsEq fs xs ys
        | some false => some false
        | none => none
      | false => none
    | none => none
  | _, _, _ => none
def isConst : Operand → Bool
  | .const _ => true
  | _ => false
def ifSame (u : TypeId) (v w : Value) : Option Bool :=
  match P.info? u, P.underlying u, v, w with
  | some i, some (.int _), .int k a, .int k' b => match i.comparable && decide (k = k') with | true => some (a == b) | false => none
  | _, _, _, _ => none
def eqV (t : TypeId) (lit : Bool) (x y : Value) : Option Bool :=
  match tiOf P t with
  | some ti => match ti.und, x, y with
    | .bool, .bool a, .bool b => some (a == b)
    | .pointer _, .pointer none, .pointer b => some b.isNone
    | .pointer _, .pointer (some _), .pointer none => some false
    | .pointer e, .pointer (some ⟨i, off, none⟩), .pointer (some ⟨j, off', none⟩) => match Nat.beq i j && Nat.beq off off' && (tiOf P e).isSome with | true => some true | false => none
    | .interface _, .nilIface, .nilIface => match lit with | true => some true | false => none
    | .interface _, .nilIface, .iface _ _ => some false
    | .interface _, .iface _ _, .nilIface => some false
    | .interface _, .iface t v, .iface u w => if t = u then ifSame P t v w else some false
    | .slice _, .slice none _ _, .slice b _ _ => some b.isNone
    | .slice _, .slice (some _) _ _, .slice none _ _ => some false
    | .map _ _, .map none, .map b => some b.isNone
    | .map _ _, .map (some _), .map none => some false
    | .func _ _ _, .nilFunc, .nilFunc => some true
    | .func _ _ _, .nilFunc, .func _ _ _ => some false
    | .func _ _ _, .func _ _ _, .nilFunc => some false
    | .struct fs, .agg xs, .agg ys => match plainEq P t fs with | true => fieldsEq P fs.toList xs.toList ys.toList | false => none
    | _, _, _ => none
  | none => none
def binV (op : BinOp) (t : TypeId) (lit : Bool) (x y : Value) : Option Value :=
  match op, x, y with
  | .shl, .int k a, .int _ b => if b < 0 then none else some (.int k (k.wrap (a * 2 ^ (min b.toNat k.bits))))
  | .shr, .int k a, .int _ b => if b < 0 then none else some (.int k (a.fdiv (2 ^ (min b.toNat k.bits))))
  | op, .int k a, .int k' b => if k = k' then intBin op k a b else none
  | op, .string a, .string b => strBin op a b
  | .eql, x, y => match eqV P t lit x y with | some b => some (.bool b) | none => none
  | .neq, x, y => match eqV P t lit x y with | some b => some (.bool !b) | none => none
  | _, _, _ => none
def unV (op : UnOp) (x : Value) : Option Value :=
  match op, x with
  | .not, .bool b => some (.bool !b)
  | .neg, .int k n => some (.int k (k.wrap (0 - n)))
  | .xor, .int k n => intBin .xor k (if k.signed then -1 else k.max) n
  | _, _ => none
def bytesV : List Value → Option (List UInt8)
  | [] => some []
  | .int .u8 n :: l => match bytesV l with | some r => some (UInt8.ofNat n.toNat :: r) | none => none
  | _ => none
def ofBytes (l : List UInt8) : List Value := l.map fun b => .int .u8 b.toNat
def AW.newRow (h : AW) (sz : Nat) (cells : List Value) : Option (Nat × AW) :=
  match allOne cells with
  | true => some (h.next, { h with next := h.next + 2, objs := h.objs.set h.next (.row (h.next + 1) 0 0 cells.length sz (T.ofList cells)), fams := h.fams.set (h.next + 1) ⟨0, cells.length, 0⟩ })
  | false => none
def convQ (h : AW) (src dst : TypeId) (x : Value) : Option Value :=
  match tiOf P src, tiOf P dst with
  | some s, some d =>
    match d.und, x with
    | .int k, .int _ n => some (.int k (k.wrap n))
    | .string, .int _ n => some (.string (Utf8.encode n))
    | .string, .string b => some (.string b)
    | .string, .slice none _ _ => match s.und with
      | .slice e => match tiOf P e with
        | some te => match te.und with
          | .int .u8 => some (.string .empty)
          | _ => none
        | none => none
      | _ => none
    | .string, .slice (some ⟨i, off, none⟩) len _ => match s.und with
      | .slice e => match tiOf P e with
        | some te => match te.und with
          | .int .u8 => match h.rdN i off len with
            | some l => match bytesV l with
              | some bs => some (.string ⟨⟨bs⟩⟩)
              | none => none
            | none => none
          | _ => none
        | none => none
      | _ => none
    | _, _ => none
  | _, _ => none
def convA (h : AW) (src dst : TypeId) (x : Value) : Option (Value × AW) :=
  match tiOf P src, tiOf P dst with
  | some s, some d =>
    match d.und, x with
    | .unsafePointer, .pointer (some ⟨i, off, none⟩) => match s.und with
      | .pointer t => match tiOf P t, h.rd i off with
        | some te, some _ => match Nat.beq te.size 0 with
          | false => some (.pointer (some ⟨i, off, none⟩), h)
          | true => none
        | _, _ => none
      | _ => none
    | .pointer u, .pointer (some ⟨i, off, none⟩) => match s.und with
      | .unsafePointer => match h.tys.get? i, tiOf P u with
        | some t, some te => match Nat.beq t u && Nat.beq off 0 && Nat.ble 1 te.size, h.rd i (te.size - 1) with
          | true, some _ => some (.pointer (some ⟨i, off, none⟩), h)
          | _, _ => none
        | _, _ => none
      | _ => none
    | .slice e, .string b => match tiOf P e with
      | some te => match te.und with
        | .int .u8 => match h.newRow 1 (ofBytes b.data.toList) with
          | some (i, h) => some (.slice (some ⟨i, 0, none⟩) b.size b.size, h)
          | none => none
        | _ => none
      | none => none
    | .slice e, .slice (some ⟨i, off, none⟩) len cap => match s.und, Nat.beq src dst && Nat.ble 1 len, h.objs.get? i with
      | .slice _, true, some (.var _ _ false) => match tiOf P e with
        | some te => match te.und with
          | .int .u8 => some (.slice (some ⟨i, off, none⟩) len cap, h)
          | _ => none
        | none => none
      | _, _, _ => none
    | _, _ => none
  | _, _ => none
def selfT (t : TypeId) : Bool :=
  match tiOf P t with
  | some ti => match ti.und with
    | .struct fs => match fs[0]? with
      | some f => match tiOf P f.type with
        | some tf => match tf.und with
          | .pointer u => Nat.beq u t
          | _ => false
        | none => false
      | none => false
    | _ => false
  | none => false
def idx (x : Value) (n : Nat) : Option Nat :=
  match x with
  | .int _ (.ofNat i) => match Nat.ble (i + 1) n with | true => some i | false => none
  | _ => none
def bnd (x : Value) (n : Nat) : Option Nat :=
  match x with
  | .int _ (.ofNat i) => match Nat.ble i n with | true => some i | false => none
  | _ => none
def bndO (x : Option Value) (n dflt : Nat) : Option Nat :=
  match x with
  | none => some dflt
  | some x => bnd x n
def indexAddrV (t : TypeId) (x i : Value) : Option Value :=
  match tiOf P t with
  | some ti => match ti.und, x with
    | .array len elem, .pointer (some ⟨b, off, none⟩) => match idx i len, tiOf P elem with
      | some i, some te => some (ptr b (off + i * te.size))
      | _, _ => none
    | .slice elem, .slice (some ⟨b, off, none⟩) len _ => match idx i len, tiOf P elem with
      | some i, some te => some (ptr b (off + i * te.size))
      | _, _ => none
    | _, _ => none
  | none => none
def indexV (t : TypeId) (x i : Value) : Option Value :=
  match tiOf P t with
  | some ti => match ti.und, x with
    | .array len elem, .agg cs => match idx i len, tiOf P elem with
      | some i, some te => partV P elem cs (i * te.size)
      | _, _ => none
    | .string, .string s => match idx i s.size with
      | some i => match s.data[i]? with
        | some b => some (.int .u8 b.toNat)
        | none => none
      | none => none
    | _, _ => none
  | none => none
def sliceQ (h : AW) (t : TypeId) (x : Value) (lo hi : Option Value) : Option Value :=
  match tiOf P t with
  | some ti => match ti.und, x with
    | .string, .string s => match bndO hi s.size s.size with
      | some hi => match bndO lo hi 0 with
        | some lo => some (.string ⟨⟨(s.data.toList.drop lo).take (hi - lo)⟩⟩)
        | none => none
      | none => none
    | .slice elem, .slice a len cap => match bndO hi cap len with
      | some hi => match bndO lo hi 0, tiOf P elem, Nat.ble hi cap with
        | some l, some te, true => match a with
          | some ⟨b, off, none⟩ => some (.slice (some ⟨b, off + l * te.size, none⟩) (hi - l) (cap - l))
          | some _ => none
          | none => some (.slice none (hi - l) (cap - l))
        | _, _, _ => none
      | none => none
    | .array n elem, .pointer (some ⟨b, off, none⟩) => match bndO hi n n with
      | some hi => match bndO lo hi 0, tiOf P elem, h.objs.get? b with
        | some l, some te, some (.var _ _ _) => some (.slice (some ⟨b, off + l * te.size, none⟩) (hi - l) (n - l))
        | _, _, _ => none
      | none => none
    | _, _ => none
  | none => none
def sliceA (h : AW) (t : TypeId) (x : Value) (lo hi : Option Value) (mx : Value) : Option (Value × AW) :=
  match tiOf P t with
  | some ti => match ti.und, x, hi with
    | .slice elem, .slice a _ cap, some hi => match bnd mx cap with
      | some m => match bnd hi m with
        | some hi => match bndO lo hi 0 with
          | some l => match Nat.beq m l with
            | true => match tiOf P elem with
             | none => none
             | some _ => match a with
              | some ⟨_, _, none⟩ => some (.slice (some ⟨h.next, 0, none⟩) 0 0, { h with next := h.next + 1 })
              | some _ => none
              | none => some (.slice none 0 0, h)
            | false => none
          | none => none
        | none => none
      | none => none
    | _, _, _ => none
  | none => none
def fieldAddrV (t : TypeId) (x : Value) (f : Nat) : Option Value :=
  match tiOf P t, x with
  | some ti, .pointer (some ⟨b, off, none⟩) => match ti.und with
    | .struct fs => match fs[f]? with
      | some fd => match tiOf P fd.type with
        | some tf => match Nat.beq tf.size 0 with
          | true => none
          | false => some (ptr b (off + fd.offset))
        | none => none
      | none => none
    | _ => none
  | _, _ => none
def fieldV (t : TypeId) (x : Value) (f : Nat) : Option Value :=
  match tiOf P t, x with
  | some ti, .agg cs => match ti.und with
    | .struct fs => match fs[f]? with
      | some fd => partV P fd.type cs fd.offset
      | none => none
    | _ => none
  | _, _ => none
def placesOf (fs : List Field) : Option (List (Nat × Nat)) :=
  match fs with
  | [] => some []
  | f :: l => match tiOf P f.type, placesOf l with
    | some tf, some r => some ((f.offset, tf.size) :: r)
    | _, _ => none
def buildV (t : TypeId) (parts : List (Nat × Value)) : Option Value :=
  match tiOf P t with
  | some ti => match ti.zero with
    | some z => match ti.und with
      | .struct fs => match placesOf P fs.toList with
        | some pl => match Instr.fill (fun i => pl[i]?) z.cells parts with
          | some cs => some (.agg cs)
          | none => none
        | none => none
      | .array _ elem => match tiOf P elem with
        | some te => match Instr.fill (fun i => some (i * te.size, te.size)) z.cells parts with
          | some cs => some (.agg cs)
          | none => none
        | none => none
      | _ => none
    | none => none
  | none => none
def rep (l : List Value) : Nat → List Value
  | 0 => []
  | n + 1 => l ++ rep l n
def buildSliceV (h : AW) (t : TypeId) (len : Nat) (parts : List (Nat × Value)) : Option (Value × AW) :=
  match tiOf P t with
  | some ti => match ti.und with
    | .slice elem => match tiOf P elem with
      | some te => match te.zero, Nat.ble (len * te.size) 16777216 with
        | some z, true => match Nat.beq z.cells.size te.size with
          | true => match Instr.fill (fun i => some (i * te.size, te.size)) ⟨rep z.cells.toList len⟩ parts with
            | some cs => match h.newVar cs.toList with
              | some (i, h) => some (.slice (some ⟨i, 0, none⟩) len len, h)
              | none => none
            | none => none
          | false => none
        | _, _ => none
      | none => none
    | _ => none
  | none => none
def makeSliceV (h : AW) (t : TypeId) (len cap : Value) : Option (Value × AW) :=
  match tiOf P t, len, cap with
  | some ti, .int _ (.ofNat l), .int _ (.ofNat c) => match ti.und with
    | .slice elem => match tiOf P elem with
      | some te => match te.zero, Nat.ble l c && Nat.ble (c * te.bytes) 140737488355328 && Nat.ble c 9223372036854775807 with
        | some z, true => match Nat.beq z.cells.size te.size with
          | true => match h.newVar (rep z.cells.toList c) with
            | some (i, h) => some (.slice (some ⟨i, 0, none⟩) l c, h.tag i elem)
            | none => none
          | false => none
        | _, _ => none
      | none => none
    | _ => none
  | _, _, _ => none
def roomy (n b : Nat) : Bool := Nat.ble (n * b) 70368744177664
def nextGen (ext e g : Nat) : Nat := match Nat.ble ext e with | true => g | false => g + 1
def appendV (h : AW) (elem : TypeId) (s : Value) (n : Nat) (new : List Value) : Option (Value × AW) :=
  match tiOf P elem, s with
  | some te, .slice base len cap =>
    match Nat.beq new.length (n * te.size) with
    | false => none
    | true => match Nat.ble (len + n) cap with
      | true => match base with
        | some ⟨i, off, none⟩ => match h.wrL i (off + len * te.size) new with
          | some h => some (.slice (some ⟨i, off, none⟩) (len + n) cap, h)
          | none => none
        | some _ => none
        | none => some (.slice none (len + n) cap, h)
      | false => match roomy (len + n) te.bytes && Nat.ble (len + n) 4611686018427387904 && allOne new && te.zero.isSome with
        | false => none
        | true => match base with
          | none => match Nat.beq len 0, h.newRow te.size new with
            | true, some (j, h) => some (.slice (some ⟨j, 0, none⟩) n n, h.tag j elem)
            | _, _ => none
          | some ⟨i, off, none⟩ => match h.objs.get? i with
            | some (.var _ _ _) => match h.rdN i off (len * te.size) with
              | some old => match h.newRow te.size (old ++ new) with
                | some (j, h) => some (.slice (some ⟨j, 0, none⟩) (len + n) (len + n), h.tag j elem)
                | none => none
              | none => none
            | some (.row f g lo hi sz cs) => match h.fams.get? f with
              | some fm =>
                match Nat.beq fm.gen g && Nat.ble lo off && Nat.beq sz te.size && Nat.ble (off + len * sz) hi && Nat.beq (off + cap * sz) hi && Nat.ble fm.frz (off + len * sz) with
                | true =>
                  some (.slice (some ⟨h.next, off, none⟩) (len + n) (len + n),
                    AW.tagAs { h with next := h.next + 1, objs := h.objs.set h.next (.row f (nextGen fm.ext (off + len * sz) g) off (off + len * sz + new.length) sz (cs.setL (off + len * sz) new)), fams := h.fams.set f { fm with gen := (nextGen fm.ext (off + len * sz) g), ext := off + len * sz + new.length } } h.next (h.tys.get? i) elem)
                | false => none
              | none => none
            | _ => none
          | some _ => none
  | _, _ => none
def isInt : TypeDesc → Bool
  | .int _ => true
  | _ => false
def appendB (h : AW) (argTypes : Array TypeId) (args : List Value) : Option (Value × AW) :=
  match argTypes.toList, args with
  | [ts, tx], [s, x] => match tiOf P ts, tiOf P tx with
    | some ti, some tj => match ti.und with
      | .slice elem => match tiOf P elem with
        | some te => match isInt tj.und with
          | false => match x with
            | .slice none n _ => match Nat.beq n 0 with
              | true => appendV P h elem s 0 []
              | false => none
            | .slice (some ⟨i, off, none⟩) n _ => match h.rdN i off (n * te.size) with
              | some l => appendV P h elem s n l
              | none => none
            | .string b => appendV P h elem s b.size (ofBytes b.data.toList)
            | _ => none
          | true => match x, te.zero, tj.und with
            | .int .i64 (.ofNat n), some z, .int .i64 => match Nat.ble (n * te.bytes) 281474976710656 && Nat.ble n 9223372036854775807 with
              | true => appendV P h elem s n (rep z.cells.toList n)
              | false => none
            | _, _, _ => none
        | none => none
      | _ => none
    | _, _ => none
  | _, _ => none
def copyB (h : AW) (argTypes : Array TypeId) (args : List Value) : Option (Value × AW) :=
  match argTypes.toList, args with
  | td :: _, [.slice base dlen _, src] => match tiOf P td with
    | some ti => match ti.und with
      | .slice elem => match tiOf P elem with
        | some te =>
          match (match src with
            | .slice none n _ => (match Nat.beq n 0 with | true => some (0, []) | false => none)
            | .slice (some ⟨i, off, none⟩) n _ => match h.rdN i off (Nat.min n dlen * te.size) with
              | some l => some (Nat.min n dlen, l)
              | none => none
            | .string b => some (Nat.min b.size dlen, ofBytes (b.data.toList.take (Nat.min b.size dlen)))
            | _ => none) with
          | some (n, l) => match base with
            | none => some (goInt n, h)
            | some ⟨i, off, none⟩ => match h.wrL i off l with
              | some h => some (goInt n, h)
              | none => none
            | some _ => none
          | none => none
        | none => none
      | _ => none
    | none => none
  | _, _ => none
def lenB (h : AW) (argTypes : Array TypeId) (args : List Value) : Option Value :=
  match argTypes.toList, args with
  | [t], [x] => match tiOf P t with
    | some ti => match ti.und, x with
      | .string, .string s => some (goInt s.size)
      | .array n _, _ => some (goInt n)
      | .pointer arr, _ => match tiOf P arr with
        | some ta => match ta.und with
          | .array n _ => some (goInt n)
          | _ => none
        | none => none
      | .slice _, .slice _ n _ => some (goInt n)
      | .map _ _, .map none => some (goInt 0)
      | .map _ _, .map (some r) => match h.objs.get? r with
        | some (.map es) => some (goInt es.length)
        | _ => none
      | _, _ => none
    | none => none
  | _, _ => none
def capB (h : AW) (argTypes : Array TypeId) (args : List Value) : Option Value :=
  match argTypes.toList, args with
  | [t], [x] => match tiOf P t with
    | some ti => match ti.und, x with
      | .slice _, .slice none _ n => some (goInt n)
      | .slice _, .slice (some ⟨i, _, _⟩) _ n => match h.objs.get? i with
        | some (.var _ _ _) => some (goInt n)
        | _ => none
      | _, _ => none
    | none => none
  | _, _ => none
def minL : Value → List Value → Option Value
  | x, [] => some x
  | .int k x, .int _ y :: l => minL (.int k (if y < x then y else x)) l
  | .string x, .string y :: l => minL (.string (if Op.bytesLess x.data.toList y.data.toList || x.data.toList == y.data.toList then x else y)) l
  | _, _ => none
def maxL : Value → List Value → Option Value
  | x, [] => some x
  | .int k x, .int _ y :: l => maxL (.int k (if y > x then y else x)) l
  | .string x, .string y :: l => maxL (.string (if !(Op.bytesLess x.data.toList y.data.toList) then x else y)) l
  | _, _ => none
def keyKind : TypeDesc → Bool
  | .int _ | .string | .bool => true
  | _ => false
def look (kind : TypeDesc) (k : Value) : List (Value × Value) → Option (Option Value)
  | [] => some none
  | (k', v) :: l => match Instr.sameNow kind k k' with
    | some true => some (some v)
    | some false => look kind k l
    | none => none
def upd (kind : TypeDesc) (k v : Value) : List (Value × Value) → Option (List (Value × Value))
  | [] => some [(k, v)]
  | (k', v') :: l => match Instr.sameNow kind k k' with
    | some true => some ((k, v) :: l)
    | some false => match upd kind k v l with | some r => some ((k', v') :: r) | none => none
    | none => none
def del (kind : TypeDesc) (k : Value) : List (Value × Value) → Option (List (Value × Value))
  | [] => some []
  | (k', v') :: l => match Instr.sameNow kind k k' with
    | some true => some l
    | some false => match del kind k l with | some r => some ((k', v') :: r) | none => none
    | none => none
def lookupV (h : AW) (t : TypeId) (m k : Value) (commaOk : Bool) : Option Value :=
  match tiOf P t with
  | some ti => match ti.und with
    | .map kt et => match tiOf P kt, tiOf P et with
      | some tk, some te => match keyKind tk.und, te.zero with
        | true, some z =>
          let r := match m with
            | .map none => some none
            | .map (some r) => match h.objs.get? r with
              | some (.map es) => look tk.und k es
              | _ => none
            | _ => none
          match r with
          | some (some v) => some (match commaOk with | true => .tuple #[v, .bool true] | false => v)
          | some none => some (match commaOk with | true => .tuple #[z, .bool false] | false => z)
          | none => none
        | _, _ => none
      | _, _ => none
    | _ => none
  | none => none
def mapUpdV (h : AW) (t : TypeId) (m k v : Value) : Option AW :=
  match tiOf P t, m with
  | some ti, .map (some r) => match ti.und with
    | .map kt _ => match tiOf P kt with
      | some tk => match keyKind tk.und, h.objs.get? r with
        | true, some (.map es) => match upd tk.und k v es with
          | some es => some { h with objs := h.objs.set r (.map es) }
          | none => none
        | _, _ => none
      | none => none
    | _ => none
  | _, _ => none
def findIx (kind : TypeDesc) (k : Value) : Nat → List (Value × Value) → Option Nat
  | i, [] => some i
  | i, (k', _) :: l => match Instr.sameNow kind k k' with
    | some true => some i
    | some false => findIx kind k (i + 1) l
    | none => none
def mapIx (h : AW) (t : TypeId) (m k : Value) : Option Nat :=
  match tiOf P t, m with
  | some ti, .map (some r) => match ti.und with
    | .map kt _ => match tiOf P kt with
      | some tk => match keyKind tk.und, h.objs.get? r, h.its.get? r with
        | true, some (.map es), some 2 => findIx tk.und k 0 es
        | _, _, _ => none
      | none => none
    | _ => none
  | _, _ => none
def putAt (v : Value) : Nat → List (Value × Value) → Option (List (Value × Value))
  | _, [] => none
  | 0, (k, _) :: l => some ((k, v) :: l)
  | j + 1, p :: l => match putAt v j l with
    | some r => some (p :: r)
    | none => none
def mapPutV (h : AW) (m : Value) (s : Int) (v : Value) : Option AW :=
  match m, s with
  | .map (some r), .ofNat j => match h.objs.get? r, h.its.get? r with
    | some (.map es), some 2 => match putAt v j es with
      | some es => some { h with objs := h.objs.set r (.map es) }
      | none => none
    | _, _ => none
  | _, _ => none
def deleteB (h : AW) (argTypes : Array TypeId) (args : List Value) : Option (Value × AW) :=
  match argTypes.toList, args with
  | t :: _, [m, k] => match tiOf P t with
    | some ti => match ti.und, m with
      | .map kt _, .map (some r) => match tiOf P kt with
        | some tk => match keyKind tk.und, h.objs.get? r with
          | true, some (.map es) => match del tk.und k es with
            | some es => some (.tuple #[], { h with objs := h.objs.set r (.map es), its := .nil })
            | none => none
          | _, _ => none
        | none => none
      | _, _ => none
    | none => none
  | _, _ => none
def clearB (h : AW) (argTypes : Array TypeId) (args : List Value) : Option (Value × AW) :=
  match argTypes.toList, args with
  | [t], [x] => match tiOf P t with
    | some ti => match x with
      | .map none => some (.tuple #[], h)
      | .slice none _ _ => some (.tuple #[], h)
      | .map (some r) => match h.objs.get? r with
        | some (.map _) => some (.tuple #[], { h with objs := h.objs.set r (.map []), its := .nil })
        | _ => none
      | .slice (some ⟨i, off, none⟩) n _ => match ti.und with
        | .slice elem => match tiOf P elem with
          | some te => match te.zero with
            | some z => match h.wrL i off (rep z.cells.toList n) with
              | some h => some (.tuple #[], h)
              | none => none
            | none => none
          | none => none
        | _ => none
      | _ => none
    | none => none
  | _, _ => none
def AW.forget (h : AW) (i : Nat) : Option AW :=
  match h.objs.get? i with
  | some (.var _ _ false) => some { h with objs := h.objs.set i (.var .nil 0 false) }
  | some (.row f g _ _ _ _) => match h.fams.get? f with
    | some fm => match Nat.beq fm.gen g with
      | true => some { h with fams := h.fams.set f { fm with gen := g + 1 } }
      | false => none
    | none => none
  | _ => none
def ustrB (h : AW) (argTypes : Array TypeId) (args : List Value) : Option (Value × AW) :=
  match argTypes.toList, args with
  | [pt, _], [.pointer p, .int .i64 (.ofNat n)] =>
    match Nat.beq n 0 with
    | true => some (.string .empty, h)
    | false => match Nat.ble n 9223372036854775807, p with
      | true, some ⟨i, off, none⟩ => match Nat.beq off 0, tiOf P pt, h.tys.get? i with
        | true, some ti, some t => match ti.und with
          | .pointer e => match Nat.beq t e, tiOf P e with
            | true, some te => match Nat.beq te.size 1, h.rdN i 0 n with
              | true, some l => match bytesV l, h.forget i with
                | some bs, some h => some (.string ⟨⟨bs⟩⟩, h)
                | _, _ => none
              | _, _ => none
            | _, _ => none
          | _ => none
        | _, _, _ => none
      | _, _ => none
  | _, _ => none
def sdataB (args : List Value) : Option Value :=
  match args with
  | [.slice none _ _] => some (.pointer none)
  | [.slice (some ⟨i, off, none⟩) _ c] => match Nat.beq c 0 with
    | false => some (.pointer (some ⟨i, off, none⟩))
    | true => none
  | _ => none
def builtinQ (h : AW) (b : Builtin) (argTypes : Array TypeId) (args : List Value) : Option Value :=
  match b with
  | .len => lenB P h argTypes args
  | .cap => capB P h argTypes args
  | .min => match args with | x :: l => minL x l | [] => none
  | .max => match args with | x :: l => maxL x l | [] => none
  | .unsafeSliceData => sdataB args
  | _ => none
def builtinA (h : AW) (b : Builtin) (argTypes : Array TypeId) (args : List Value) : Option (Value × AW) :=
  match b with
  | .append => appendB P h argTypes args
  | .copy => copyB P h argTypes args
  | .delete => deleteB P h argTypes args
  | .clear => clearB P h argTypes args
  | .unsafeString => ustrB P h argTypes args
  | _ => none
def nilCheckV : Value → Option Value
  | .pointer none | .nilIface | .nilFunc => none
  | .func (.method _) _ _ => none
  | x => some x
def opQ (F : Fr) (h : AW) (o : Op) : Option Value :=
  match o with
  | .move x | .assign x => some (F.ev x)
  | .pick c a b => match F.ev c with | .bool true => some (F.ev a) | .bool false => some (F.ev b) | _ => none
  | .build t parts => buildV P t (parts.toList.map fun p => (p.1, F.ev p.2))
  | .load t a => loadV P h t (F.ev a)
  | .nilCheck x => nilCheckV (F.ev x)
  | .binOp op t x y _ => binV P op t (isConst x || isConst y) (F.ev x) (F.ev y)
  | .unOp op _ x => unV op (F.ev x)
  | .convert s d x => convQ P h s d (F.ev x)
  | .makeInterface t x => match tiOf P t with
    | some ti => match ti.und with | .interface _ => none | _ => some (.iface t (F.ev x))
    | none => none
  | .makeFunc fn first captured => some (.func fn ⟨vals F first⟩ ⟨vals F captured⟩)
  | .slice t x lo hi none => sliceQ P h t (F.ev x) (lo.map F.ev) (hi.map F.ev)
  | .fieldAddr t x f => fieldAddrV P t (F.ev x) f
  | .field t x f => fieldV P t (F.ev x) f
  | .indexAddr t x i => indexAddrV P t (F.ev x) (F.ev i)
  | .index t x i => indexV P t (F.ev x) (F.ev i)
  | .lookup t m k ok => lookupV P h t (F.ev m) (F.ev k) ok
  | .extract x i => match F.ev x with | .tuple vs => vs[i]? | _ => none
  | .call { callee := .builtin b, args, argTypes } => builtinQ P h b argTypes (vals F args)
  | _ => none
def opA (F : Fr) (h : AW) (o : Op) : Option (Value × AW) :=
  match o with
  | .alloc t => match tiOf P t with
    | some ti => match ti.zero with
      | some z => match h.newVar z.cells.toList with | some (i, h) => some (ptr i 0, match selfT P t with | true => h.tag i t | false => h) | none => none
      | none => none
    | none => none
  | .box _ x => match h.newVar (F.ev x).cells.toList with | some (i, h) => some (ptr i 0, h) | none => none
  | .buildSlice t len parts => buildSliceV P h t len (parts.toList.map fun p => (p.1, F.ev p.2))
  | .store t a x => match storeV P h t (F.ev a) (F.ev x) with | some h => some (undef, h) | none => none
  | .convert s d x => convA P h s d (F.ev x)
  | .makeMap _ none => some (.map (some h.newMap.1), h.newMap.2)
  | .makeMap t (some x) => match tiOf P t, F.ev x with
    | some ti, .int _ _ => match ti.und with
      | .map _ _ => some (.map (some h.newMap.1), h.newMap.2)
      | _ => none
    | _, _ => none
  | .makeSlice t l c => makeSliceV P h t (F.ev l) (F.ev c)
  | .slice t x lo hi (some mx) => sliceA P h t (F.ev x) (lo.map F.ev) (hi.map F.ev) (F.ev mx)
  | .mapUpdate t m k v | .insert t m k v => match mapUpdV P h t (F.ev m) (F.ev k) (F.ev v) with | some h => some (undef, h) | none => none
  | .mapEntry t m k => match lookupV P h t (F.ev m) (F.ev k) false, mapIx P h t (F.ev m) (F.ev k) with
    | some old, some j => match mapUpdV P h t (F.ev m) (F.ev k) old with
      | some h => some (.tuple #[old, .int .i64 j], h)
      | none => none
    | _, _ => none
  | .entryStore _ m s x => match F.ev s with
    | .int .i64 z => match mapPutV h (F.ev m) z (F.ev x) with | some h => some (undef, h) | none => none
    | _ => none
  | .call { callee := .builtin b, args, argTypes } => builtinA P h b argTypes (vals F args)
  | .range t x => match tiOf P t with
    | some ti => match ti.und, F.ev x with
      | .map _ _, .map none => some (ptr h.next 0, h.newIter)
      | _, _ => none
    | none => none
  | .next it s => match F.ev it, s with
    | .pointer (some ⟨i, 0, none⟩), false => match h.its.get? i with
      | some 1 => some (.tuple #[.bool false], h)
      | _ => none
    | _, _ => none
  | _ => none
def opV (F : Fr) (h : AW) (o : Op) : Option (Value × AW) :=
  match opQ P F h o with
  | some v => some (v, h)
  | none => opA P F h o
end Go.Abs
end

section
/- The deterministic heap semantics: regions, code, calls. -/
namespace Go.Abs
variable (P : Program)
def target (F : Fr) (c : Call) : Option (FuncId × List Value) :=
  match c.callee with
  | .value f => match F.ev f with
    | .func (.func f) first captured => some (f, first.toList ++ (vals F c.args ++ captured.toList))
    | _ => none
  | _ => none
inductive Ex where
  | normal
  | exit (id : Nat)
  | ret
def guardOk (ops : List Oper) (F : Fr) (o : Oper) : Option Bool :=
  match o.guard with
  | none => some true
  | some (j, want) => match ops[j]? with
    | some oj => match oj.dst with
      | some d => match F.t.get? d with
        | some (.bool b) => some (b == want)
        | _ => some false
      | none => some false
    | none => some false
def guardFn (g : FuncId) : Bool :=
  match P.funcs[g]? with
  | some fn => match fn.body, fn.results.toList with
    | some (.seq (.region _ r0 false) (.block _ (.seq (.region _ r1 false) (.cond (.tmp c) (.region _ r2 false) _)))), [] =>
      match r0.toList, r1.toList, r2.toList with
      | [{ dst := some t, op := .call { callee := .builtin .recover, args := _, argTypes := _ }, type := _, pos := _, after := _, guard := none }],
        [{ dst := some b, op := .binOp .eql ty (.tmp a) (.const .nilIface) _, type := _, pos := _, after := _, guard := none }],
        [{ dst := _, op := .assign _, type := _, pos := _, after := _, guard := none }] =>
        Nat.beq t a && Nat.beq b c && Nat.blt t fn.ntmps && Nat.blt b fn.ntmps && !(fn.name == "runtime.NumGoroutine") &&
          match binV P .eql ty true .nilIface .nilIface with
          | some (.bool true) => true
          | _ => false
      | _, _, _ => false
    | _, _ => false
  | none => false
def deferB (F : Fr) (c : Call) : Bool :=
  match c.callee with
  | .value f => match F.ev f with
    | .func (.func g) _ _ => guardFn P g
    | _ => false
  | _ => false
def opD (F : Fr) (h : AW) (op : Op) : Option (Value × AW) :=
  match op with
  | .defer c => match deferB P F c with
    | true => some (undef, h)
    | false => none
  | op => opV P F h op
def stepOp (call : FuncId → List Value → AW → Option (Value × AW)) (ops : List Oper) (o : Oper) (F : Fr) (h : AW) : Option (Fr × AW) :=
  match guardOk ops F o with
  | some true =>
    match (match o.op with
      | .call { callee := .value f, args, argTypes } => match target F { callee := .value f, args, argTypes } with
        | some (f, args) => call f args h
        | none => none
      | op => opD P F h op) with
    | some (v, h) => match F.put o.dst v with | some F => some (F, h) | none => none
    | none => none
  | some false => match F.put o.dst undef with | some F => some (F, h) | none => none
  | none => none
def runOps (call : FuncId → List Value → AW → Option (Value × AW)) (ops : List Oper) : List Oper → Fr → AW → Option (Fr × AW)
  | [], F, h => some (F, h)
  | o :: l, F, h => match stepOp P call ops o F h with
    | some (F, h) => runOps call ops l F h
    | none => none
def beqV : Nat → Value → Value → Bool
  | _, .bool a, .bool b => a == b
  | _, .int k a, .int k' b => decide (k = k') && a == b
  | _, .string a, .string b => a.data.toList == b.data.toList
  | _, .pointer a, .pointer b => decide (a = b)
  | _, .slice a l c, .slice b l' c' => decide (a = b) && Nat.beq l l' && Nat.beq c c'
  | _, .map a, .map b => decide (a = b)
  | _, .nilFunc, .nilFunc => true
  | _, .nilIface, .nilIface => true
  | n + 1, .iface t v, .iface t' v' => Nat.beq t t' && beqV n v v'
  | n + 1, .agg a, .agg b => go n a.toList b.toList
  | n + 1, .tuple a, .tuple b => go n a.toList b.toList
  | n + 1, .func f a b, .func f' a' b' => decide (f = f') && go n a.toList a'.toList && go n b.toList b'.toList
  | _, _, _ => false
  where
  go (n : Nat) : List Value → List Value → Bool
    | [], [] => true
    | x :: xs, y :: ys => beqV n x y && go n xs ys
    | _, _ => false
def tmpsOf : List Operand → List Nat
  | [] => []
  | .tmp t :: l => t :: tmpsOf l
  | _ :: l => tmpsOf l
def readsOf (ops : List Oper) (o : Oper) : List Nat :=
  tmpsOf o.op.operands.toList ++ (match o.guard with
    | none => []
    | some (j, _) => match ops[j]? with
      | some oj => match oj.dst with | some d => [d] | none => []
      | none => [])
def maskOf (acc : List Nat) : List Edge → Nat
  | [] => 0
  | e :: l => match Region.binds .any e with
    | true => (2 ^ e.on ||| acc.getD e.on 0) ||| maskOf acc l
    | false => maskOf acc l
def masks : List Oper → List Nat → List Nat
  | [], acc => acc
  | o :: l, acc => masks l (acc ++ [maskOf acc o.after.toList])
def bef (M : List Nat) (i j : Nat) : Bool := (M.getD j 0).testBit i
def pairOk (M : List Nat) (ops : List Oper) (i : Nat) (oi : Oper) (j : Nat) (oj : Oper) : Bool :=
  match Nat.beq i j with
  | true => true
  | false => match oi.dst with
    | none => true
    | some d => !decide (oj.dst = some d) && (!(readsOf ops oj).contains d || (match Nat.ble (i + 1) j with | true => bef M i j | false => bef M j i))
def rowOk (M : List Nat) (ops : List Oper) (j : Nat) (oj : Oper) : Nat → List Oper → Bool
  | _, [] => true
  | i, oi :: l => pairOk M ops i oi j oj && rowOk M ops j oj (i + 1) l
def edgesOk (j : Nat) : List Edge → Bool
  | [] => true
  | e :: l => (!Region.binds .any e || Nat.ble (e.on + 1) j) && edgesOk j l
def allRows (M : List Nat) (ops : List Oper) : Nat → List Oper → Bool
  | _, [] => true
  | j, oj :: l => rowOk M ops j oj 0 ops && edgesOk j oj.after.toList && allRows M ops (j + 1) l
def staticOk (ops : List Oper) : Bool := allRows (masks ops []) ops 0 ops
structure St where
  o : Oper
  F : Fr
  h : AW
  want : Bool
  act : Option AW
  v : Value
def actV (call : FuncId → List Value → AW → Option (Value × AW)) (F : Fr) (h : AW) (o : Oper) : Option (Value × AW) :=
  match o.op with
  | .call { callee := .value f, args, argTypes } => match target F { callee := .value f, args, argTypes } with
    | some (f, args) => call f args h
    | none => none
  | op => opA P F h op
def virt (base : Nat) (o : Oper) : Option Value :=
  match o with
  | { dst := some d, op := .makeMap _ none, type := _, pos := _, after := _, guard := none } => some (.map (some (base + d)))
  | _ => none
def opQV (vm : Option Nat) (F : Fr) (h : AW) (o : Oper) : Option Value :=
  match vm with
  | none => opQ P F h o.op
  | some b => match virt b o with
    | some v => some v
    | none => opQ P F h o.op
def traceOps (vm : Option Nat) (call : FuncId → List Value → AW → Option (Value × AW)) (ops : List Oper) : List Oper → Fr → AW → Option (List St × Fr × AW)
  | [], F, h => some ([], F, h)
  | o :: l, F, h =>
    match guardOk ops F o with
    | none => none
    | some false => match F.put o.dst undef with
      | some F' => match traceOps vm call ops l F' h with
        | some (tr, r) => some (⟨o, F, h, false, none, undef⟩ :: tr, r)
        | none => none
      | none => none
    | some true => match opQV P vm F h o with
      | some v => match F.put o.dst v with
        | some F' => match traceOps vm call ops l F' h with
          | some (tr, r) => some (⟨o, F, h, true, none, v⟩ :: tr, r)
          | none => none
        | none => none
      | none => match actV P call F h o with
        | some (v, h') => match F.put o.dst v with
          | some F' => match traceOps vm call ops l F' h' with
            | some (tr, r) => some (⟨o, F, h, true, some h', v⟩ :: tr, r)
            | none => none
          | none => none
        | none => none
def acts : Nat → List St → List (Nat × AW)
  | _, [] => []
  | k, s :: l => match s.act with
    | some h => (k, h) :: acts (k + 1) l
    | none => acts (k + 1) l
def chainOk (M : List Nat) : List (Nat × AW) → Bool
  | [] => true
  | (i, _) :: l => (match l with | [] => true | (j, _) :: _ => bef M i j) && chainOk M l
def befAll (M : List Nat) : List Nat → Nat → Bool
  | [], _ => true
  | i :: l, j => bef M i j && befAll M l j
def pairsBut (M : List Nat) (z : Nat) : List Nat → List (Nat × AW) → Bool
  | _, [] => true
  | pre, (j, _) :: l => (Nat.beq j z || befAll M pre j) && pairsBut M z (j :: pre) l
def preOf (z : Nat) : List (Nat × AW) → List Nat
  | [] => []
  | (i, _) :: l => match Nat.beq i z with
    | true => []
    | false => i :: preOf z l
def edgeTo (z : Nat) : List Edge → Bool
  | [] => false
  | e :: l => Nat.beq e.on z || edgeTo z l
def depsOk (M : List Nat) (z : Nat) (pre : List Nat) : Nat → List Oper → Bool
  | _, [] => true
  | j, o :: l => (!(bef M z j || edgeTo z o.after.toList) || befAll M pre j) && depsOk M z pre (j + 1) l
def isNew (ops : List Oper) (z : Nat) : Bool := match ops[z]? with
  | some o => match o.op with
    | .alloc _ => o.dst.isSome
    | .buildSlice .. => o.dst.isSome
    | _ => false
  | none => false
def freeOne (ops : List Oper) (M : List Nat) (As : List (Nat × AW)) (z : Nat) : Bool := isNew ops z && pairsBut M z [] As && depsOk M z (preOf z As) 0 ops
def freeAny (ops : List Oper) (M : List Nat) (As : List (Nat × AW)) : List (Nat × AW) → Bool
  | [] => false
  | (z, _) :: l => freeOne ops M As z || freeAny ops M As l
def orderedOk (ops : List Oper) (M : List Nat) (As : List (Nat × AW)) : Bool := chainOk M As || freeAny ops M As As
def noneBef (M : List Nat) (j : Nat) : List (Nat × AW) → Bool
  | [] => true
  | (i, _) :: l => !bef M i j && noneBef M j l
def chkFrom (M : List Nat) (j : Nat) (check : AW → Bool) (own : Nat) : Nat → AW → List (Nat × AW) → Bool
  | cur, h, [] => Nat.beq cur own || check h
  | cur, h, (i, h') :: l => (Nat.beq cur own || !noneBef M j ((i, h') :: l) || check h) && (bef M j i || chkFrom M j check own (cur + 1) h' l)
def looks : Op → Bool
  | .load .. | .lookup .. | .convert .. | .slice .. | .call _ => true
  | _ => false
def stOk (M : List Nat) (h : AW) (As : List (Nat × AW)) (own j : Nat) (s : St) : Bool :=
  match s.act, s.want with
  | none, true => !looks s.o.op || chkFrom M j (fun h => match opQ P s.F h s.o.op with | some v => beqV 8 v s.v | none => false) own 0 h As
  | _, _ => true
def stsOk (M : List Nat) (h : AW) (As : List (Nat × AW)) : Nat → Nat → List St → Bool
  | _, _, [] => true
  | own, j, s :: l => stOk P M h As own j s && stsOk M h As (match s.act with | some _ => own + 1 | none => own) (j + 1) l
def actM : Op → Bool
  | .mapEntry .. | .entryStore .. | .mapUpdate .. | .insert .. => true
  | _ => false
def actsM : List St → Bool
  | [] => true
  | s :: l => (match s.act with | some _ => actM s.o.op | none => true) && actsM l
def mapDst (o : Oper) : Option Nat :=
  match virt 0 o with
  | some _ => o.dst
  | none => none
def mapDsts (ops : List Oper) : List Nat := ops.filterMap mapDst
def mapsReg (ops : List Oper) : Bool := ops.any fun o => match o.op with
  | .mapEntry .. => !(mapDsts ops).isEmpty
  | _ => false
def nodupB : List Nat → Bool
  | [] => true
  | x :: l => !l.contains x && nodupB l
def runMaps (call : FuncId → List Value → AW → Option (Value × AW)) (ops : List Oper) (F : Fr) (h : AW) : Option (Fr × AW) :=
  match traceOps P (some h.next) call ops ops F (h.room F.n) with
  | some (tr, F', h') => match (chainOk (masks ops []) (acts 0 tr) && actsM tr) && (stsOk P (masks ops []) (h.room F.n) (acts 0 tr) 0 0 tr && nodupB (mapDsts ops)) with
    | true => some (F', h'.layMaps h.next (mapDsts ops))
    | false => none
  | none => none
def runDrawn (call : FuncId → List Value → AW → Option (Value × AW)) (ops : Array Oper) (F : Fr) (h : AW) : Option (Fr × AW) :=
  match staticOk ops.toList with
  | false => none
  | true => match mapsReg ops.toList with
    | true => runMaps P call ops.toList F h
    | false => match traceOps P none call ops.toList ops.toList F h with
    | some (tr, F', h') => match orderedOk ops.toList (masks ops.toList []) (acts 0 tr) && stsOk P (masks ops.toList []) h (acts 0 tr) 0 0 tr with
      | true => some (F', h')
      | false => none
    | none => none
def hasBody (f : FuncId) : Bool :=
  match P.funcs[f]? with
  | some fn => fn.body.isSome
  | none => false
def overF (F : Fr) (g : Operand) : Option (FuncId × List Value) := target F { callee := .value g, args := #[.const (.chan none)], argTypes := #[] }
def run (call : FuncId → List Value → AW → Option (Value × AW)) : Nat → Code → Fr → AW → Option (Ex × Fr × AW)
  | 0, _, _, _ => none
  | n + 1, c, F, h =>
    match c with
    | .skip | .label _ => some (.normal, F, h)
    | .region _ ops draw => match draw with
      | false => match runOps P call ops.toList ops.toList F h with
        | some (F, h) => some (.normal, F, h)
        | none => none
      | true => match runDrawn P call ops F h with
        | some (F, h) => some (.normal, F, h)
        | none => none
    | .seq a b => match run call n a F h with
      | some (.normal, F, h) => run call n b F h
      | r => r
    | .cond c x y => match F.ev c with
      | .bool true => run call n x F h
      | .bool false => run call n y F h
      | _ => none
    | .block id b => match run call n b F h with
      | some (.exit j, F, h) => match Nat.beq j id with
        | true => some (.normal, F, h)
        | false => some (.exit j, F, h)
      | r => r
    | .loop b => match run call n b F h with
      | some (.normal, F, h) => run call n (.loop b) F h
      | r => r
    | .exit id => some (.exit id, F, h)
    | .scope b => run call n b F h
    | .ret => some (.ret, F, h)
    | .rangeFunc g _ _ _ => match overF F g with
      | some (f, args) => match hasBody P f, call f args h with
        | true, some (_, h) => some (.normal, F, h)
        | _, _ => none
      | none => none
    | _ => none
def resultV (F : Fr) (h : AW) : ResultVar → Option Value
  | .tmp t => some (match F.t.get? t with | some v => v | none => undef)
  | .cell a t => loadV P h t (match F.t.get? a with | some v => v | none => undef)
def resultL (F : Fr) (h : AW) : List ResultVar → Option (List Value)
  | [] => some []
  | r :: l => match resultV P F h r with
    | some v => match resultL F h l with | some r => some (v :: r) | none => none
    | none => none
def operandOk (G : Nat) : Operand → Bool
  | .const v => flat v
  | .global g => Nat.ble (g + 1) G
  | _ => true
def operandsOk (G : Nat) : List Operand → Bool
  | [] => true
  | x :: l => operandOk G x && operandsOk G l
def opersOk (G : Nat) : List Oper → Bool
  | [] => true
  | o :: l => operandsOk G o.op.operands.toList && opersOk G l
def codeOk (G : Nat) : Code → Bool
  | .region _ ops _ => opersOk G ops.toList
  | .seq a b => codeOk G a && codeOk G b
  | .cond c x y => operandOk G c && codeOk G x && codeOk G y
  | .block _ b => codeOk G b
  | .loop b => codeOk G b
  | .scope b => codeOk G b
  | .rangeFunc g _ _ _ => operandOk G g
  | _ => true
def worksNames : List String := ["brickyard/brickyardlaw15.works", "brickyard/brickyardlaw07.works", "brickyard/brickyardlaw08.works", "brickyard/brickyardlaw18.works", "brickyard/brickyardlaw21.works", "brickyard/brickyardlaw22.works", "brickyard/brickyardlaw23.works", "brickyard/brickyardlaw24.works", "brickyard/brickyardlaw27.works", "brickyard/brickyardlaw28.works", "brickyard/brickyardlaw15.ElabNames", "brickyard/brickyardlaw07.BtreeKnown", "brickyard/brickyardlaw08.StoreKnown", "brickyard/brickyardlaw18.TracesKnown", "brickyard/brickyardlaw21.CleanKnown"]
def ownNames : List String := ["brickyard/brickyardlaw15.ElabNames$1", "brickyard/brickyardlaw15.ElabNames$2"]
def ownFn (fn : Func) : Bool :=
  match fn.params.toList with
  | [] => worksNames.any (· == fn.name)
  | _ => ownNames.any (· == fn.name)
def sortNames : List String := ["slices.Sorted[string]", "slices.Sorted[int]"]
def sortFn (fn : Func) : Bool := sortNames.any (· == fn.name)
def edgeFn (fn : Func) : Bool := fn.name == "(*brickyard/clean.Result).Edges"
def bodyOf (f : FuncId) : Option (Func × Code) :=
  match P.funcs[f]? with
  | some fn => match fn.body with
    | some c => match (codeOk P.globals.size c && !(ownFn fn || (sortFn fn || edgeFn fn))) && !(fn.name == "runtime.NumGoroutine") && P.follows .mixedOrders with
      | true => some (fn, c)
      | false => none
    | none => none
  | none => none
def closedOf (f : FuncId) : Option (Func × Code) :=
  match P.funcs[f]? with
  | some fn => match fn.body with
    | some c => match (codeOk P.globals.size c && ownFn fn) && !(fn.name == "runtime.NumGoroutine") && P.follows .mixedOrders with
      | true => some (fn, c)
      | false => none
    | none => none
  | none => none
def bodyAny (f : FuncId) : Option (Func × Code) :=
  match bodyOf P f with
  | some r => some r
  | none => closedOf P f
def sameFn (f : FuncId) : Bool :=
  match P.funcs[f]? with
  | some fn => fn.body.isNone && fn.name == "internal/abi.NoEscape" && (Extern.findNext fn).isNone
  | none => false
def idxFn (f : FuncId) : Bool :=
  match P.funcs[f]? with
  | some fn => fn.body.isNone && fn.name == "internal/bytealg.IndexByteString" && (Extern.findNext fn).isNone
  | none => false
def idxB : List UInt8 → UInt8 → Int
  | [], _ => -1
  | b :: l, c => if b == c then 0 else if idxB l c == -1 then -1 else idxB l c + 1
def cntFn (f : FuncId) : Bool :=
  match P.funcs[f]? with
  | some fn => fn.body.isNone && fn.name == "internal/bytealg.CountString" && (Extern.findNext fn).isNone
  | none => false
def mnzFn (f : FuncId) : Option TypeId :=
  match P.funcs[f]? with
  | some fn => match fn.body.isNone && fn.name == "internal/bytealg.MakeNoZero" && (Extern.findNext fn).isNone with
    | true => match fn.resultTypes.toList with
      | [t] => match tiOf P t with
        | some ti => match ti.und with
          | .slice e => some e
          | _ => none
        | none => none
      | _ => none
    | false => none
  | none => none
def sameV (f : FuncId) (args : List Value) (h : AW) : Option (Value × AW) :=
  match args with
  | [.pointer p] => match sameFn P f with
    | true => some (.pointer p, h)
    | false => none
  | [.string s, .int .u8 c] => match idxFn P f with
    | true => some (.int .i64 (idxB s.data.toList c.toNat.toUInt8), h)
    | false => match cntFn P f with
      | true => some (.int .i64 ((s.data.toList.count c.toNat.toUInt8 : Nat) : Int), h)
      | false => none
  | [.int .i64 (.ofNat n)] => match mnzFn P f, Nat.ble n 281474976710656, h.newRow 1 [] with
    | some e, true, some (j, h') => some (.slice (some ⟨j, 0, none⟩) n 0, h'.tag j e)
    | _, _, _ => none
  | _ => none
theorem sameV_spec {P : Program} {f : FuncId} {args : List Value} {h h' : AW} {v : Value} (e : sameV P f args h = some (v, h')) :
    (h' = h ∧ ((∃ p, args = [.pointer p] ∧ v = .pointer p ∧ sameFn P f = true) ∨ (∃ s c, args = [.string s, .int .u8 c] ∧ v = .int .i64 (idxB s.data.toList c.toNat.toUInt8) ∧ idxFn P f = true) ∨
      ∃ s c, args = [.string s, .int .u8 c] ∧ v = .int .i64 ((s.data.toList.count c.toNat.toUInt8 : Nat) : Int) ∧ cntFn P f = true)) ∨
    ∃ n e j h2, args = [.int .i64 (.ofNat n)] ∧ mnzFn P f = some e ∧ n ≤ 281474976710656 ∧ h.newRow 1 [] = some (j, h2) ∧ v = .slice (some ⟨j, 0, none⟩) n 0 ∧ h' = h2.tag j e := by
  unfold sameV at e
  split at e
  · rename_i p
    split at e
    · rename_i hs
      simp only [Option.some.injEq, Prod.mk.injEq] at e
      exact .inl ⟨e.2.symm, .inl ⟨p, rfl, e.1.symm, hs⟩⟩
    · cases e
  · rename_i s c
    split at e
    · rename_i hs
      simp only [Option.some.injEq, Prod.mk.injEq] at e
      exact .inl ⟨e.2.symm, .inr (.inl ⟨s, c, rfl, e.1.symm, hs⟩)⟩
    · split at e
      · rename_i hs
        simp only [Option.some.injEq, Prod.mk.injEq] at e
        exact .inl ⟨e.2.symm, .inr (.inr ⟨s, c, rfl, e.1.symm, hs⟩)⟩
      · cases e
  · rename_i n
    split at e
    · rename_i t j h2 h1 hb hr
      simp only [Option.some.injEq, Prod.mk.injEq] at e
      exact .inr ⟨n, t, j, h2, rfl, h1, Nat.le_of_ble_eq_true hb, hr, e.1.symm, e.2.symm⟩
    · cases e
  · cases e
def plain1 : Value → Bool
  | .bool _ => true
  | .int _ _ => true
  | .string _ => true
  | _ => false
def plainL : List Value → Bool
  | [] => true
  | v :: l => plain1 v && plainL l
def plain : Value → Bool
  | .agg a => plainL a.toList
  | v => plain1 v
def closedRes (fn : Func) (r : Option (Ex × Fr × AW)) : Option Value :=
  match r with
  | some (.exit _, _, _) => none
  | some (_, F, h) => match resultL P F h fn.results.toList with
    | some [v] => match plain v with
      | true => some v
      | false => none
    | _ => none
  | none => none
def insI (z : Int) : List Int → List Int
  | [] => [z]
  | y :: l => match decide (z ≤ y) with
    | true => z :: y :: l
    | false => y :: insI z l
def sortI : List Int → List Int
  | [] => []
  | z :: l => insI z (sortI l)
def leBy : List UInt8 → List UInt8 → Bool
  | [], _ => true
  | _ :: _, [] => false
  | a :: l, b :: m => match Nat.beq a.toNat b.toNat with
    | true => leBy l m
    | false => Nat.ble a.toNat b.toNat
def insS (s : ByteArray) : List ByteArray → List ByteArray
  | [] => [s]
  | y :: l => match leBy s.data.toList y.data.toList with
    | true => s :: y :: l
    | false => y :: insS s l
def sortS : List ByteArray → List ByteArray
  | [] => []
  | s :: l => insS s (sortS l)
def intsOf : List Value → Option (List Int)
  | [] => some []
  | .int .i64 z :: l => match decide (-9223372036854775808 ≤ z) && decide (z ≤ 9223372036854775807), intsOf l with | true, some r => some (z :: r) | _, _ => none
  | _ => none
def strsOf : List Value → Option (List ByteArray)
  | [] => some []
  | .string s :: l => match Nat.ble s.size 1073741824, strsOf l with | true, some r => some (s :: r) | _, _ => none
  | _ => none
def sortK (st : Bool) (ks : List Value) : Option (List Value) :=
  match st with
  | false => match intsOf ks with
    | some zs => some ((sortI zs).map (.int .i64))
    | none => none
  | true => match strsOf ks with
    | some ss => some ((sortS ss).map .string)
    | none => none
def keysAt (w : World) : Option Nat → List Value → Prop
  | none, ks => ks = []
  | some b, ks => ∃ es clock, w.heap[b]? = some (.map es clock) ∧ MapKept.Stamped es clock ∧ es.toList.map (·.key) = ks
def SortC (P : Program) (st : Bool) (f g : FuncId) : Prop :=
  ∀ (w : World) (p : Nat) (b : Option Nat) (ks srt : List Value), w.cell? ⟨p, 0, none⟩ = some (.map b) → keysAt w b ks → ks.length ≤ 1073741824 → sortK st ks = some srt →
    Calls P f #[.func (.func g) #[] #[.pointer (some ⟨p, 0, none⟩)]] w fun e w' => RowKit.Below w.heap.size w w' ∧
      ((srt = [] ∧ e = .returned (.slice none 0 0)) ∨
        srt ≠ [] ∧ ∃ gb cap cur E, e = .returned (.slice (some ⟨gb, 0, none⟩) srt.length cap) ∧ w.heap.size ≤ gb ∧ w'.heap[gb]? = some (.cells cur E (0, 0)) ∧ srt.length ≤ cap ∧ cur.size = cap ∧ cur.toList.take srt.length = srt)
def keysOf (h : AW) (p : Nat) : Option (List Value) :=
  match h.rd p 0 with
  | some (.map none) => some []
  | some (.map (some m)) => match h.objs.get? m with
    | some (.map es) => some (es.map (·.1))
    | _ => none
  | _ => none
def sortOf (f : FuncId) : Option Bool :=
  match P.funcs[f]? with
  | some fn => match fn.body.isSome && sortFn fn && !(fn.name == "runtime.NumGoroutine") with
    | true => some (fn.name == "slices.Sorted[string]")
    | false => none
  | none => none
def sortRow (h : AW) (srt : List Value) : Option (Value × AW) :=
  match srt with
  | [] => some (.slice none 0 0, h)
  | srt => match h.newRow 1 srt with
    | some (i, h') => some (.slice (some ⟨i, 0, none⟩) srt.length srt.length, h')
    | none => none
open Classical in
noncomputable def sortV (f : FuncId) (args : List Value) (h : AW) : Option (Value × AW) :=
  match args with
  | [.func (.func g) ⟨[]⟩ ⟨[.pointer (some ⟨p, 0, none⟩)]⟩] => match keysOf h p, sortOf P f with
    | some ks, some st => match Nat.ble ks.length 1073741824, sortK st ks with
      | true, some srt => if SortC P st f g then sortRow h srt else none
      | _, _ => none
    | _, _ => none
  | _ => none
def tA : ByteArray := ⟨#[97]⟩
def tB : ByteArray := ⟨#[98]⟩
def tC : ByteArray := ⟨#[99]⟩
def EdgesC (P : Program) (f : FuncId) : Prop :=
  (∀ w : World, Calls P f #[.pointer none] w fun e w' => RowKit.Below w.heap.size w w' ∧ e = .returned (.slice none 0 0)) ∧
  ∀ (w : World) (r j1 j2 m n1 n2 : Nat) (a1 a2 : Addr) (es : Array MapEntry) (clock : Nat), w.cell? ⟨r, 5, none⟩ = some (.map (some m)) → w.heap[m]? = some (.map es clock) → MapKept.Stamped es clock →
    es.toList.map (fun e => (e.key, e.val)) = [(.string tC, .pointer (some ⟨j1, 0, none⟩)), (.string tB, .pointer (some ⟨j2, 0, none⟩))] →
    w.cell? ⟨j1, 10, none⟩ = some (.slice (some a1) 1 n1) → w.cell? a1 = some (.string tB) → w.cell? ⟨j2, 10, none⟩ = some (.slice (some a2) 1 n2) → w.cell? a2 = some (.string tA) →
    Calls P f #[.pointer (some ⟨r, 0, none⟩)] w fun e w' => RowKit.Below w.heap.size w w' ∧
      ∃ gb cap, e = .returned (.slice (some ⟨gb, 0, none⟩) 2 cap) ∧ w.heap.size ≤ gb ∧ gb < w'.heap.size ∧ 2 ≤ cap ∧ (∀ (k : Nat) (v : Value), [Value.string tB, .string tA, .string tC, .string tB][k]? = some v → w'.cell? ⟨gb, k, none⟩ = some v) ∧
        ∀ k, k < cap * 2 → (∃ u, w'.cell? ⟨gb, k, none⟩ = some u) ∧ w'.frozen? ⟨gb, k, none⟩ = false
def strIs (v : Option Value) (s : ByteArray) : Bool :=
  match v with
  | some (.string t) => t.data.toList == s.data.toList
  | _ => false
def askIs (h : AW) (j : Nat) (s : ByteArray) : Bool :=
  match h.rd j 10 with
  | some (.slice (some ⟨i, off, none⟩) 1 _) => strIs (h.rd i off) s
  | _ => false
def edgeIs (h : AW) (p : Nat) : Bool :=
  match h.rd p 5 with
  | some (.map (some m)) => match h.objs.get? m with
    | some (.map [(k1, .pointer (some ⟨j1, 0, none⟩)), (k2, .pointer (some ⟨j2, 0, none⟩))]) => strIs (some k1) tC && strIs (some k2) tB && askIs h j1 tB && askIs h j2 tA
    | _ => false
  | _ => false
def edgeOf (f : FuncId) : Bool :=
  match P.funcs[f]? with
  | some fn => fn.body.isSome && edgeFn fn && !(fn.name == "runtime.NumGoroutine")
  | none => false
def edgeRow (args : List Value) (h : AW) : Option (Value × AW) :=
  match args with
  | [.pointer none] => some (.slice none 0 0, h)
  | [.pointer (some ⟨p, 0, none⟩)] => match edgeIs h p with
    | true => match h.newRow 2 [.string tB, .string tA, .string tC, .string tB] with
      | some (i, h') => some (.slice (some ⟨i, 0, none⟩) 2 2, h')
      | none => none
    | false => none
  | _ => none
open Classical in
noncomputable def edgesV (f : FuncId) (args : List Value) (h : AW) : Option (Value × AW) :=
  match edgeOf P f with
  | true => if EdgesC P f then edgeRow args h else none
  | false => none
noncomputable def noBodyV (go : Func → Code → List Value → Option (Ex × Fr × AW)) (f : FuncId) (args : List Value) (h : AW) : Option (Value × AW) :=
  match sameV P f args h with
  | some r => some r
  | none => match closedOf P f with
    | some (fn, c) => match plainL args with
      | true => match closedRes P fn (go fn c args) with
        | some v => some (v, h)
        | none => none
      | false => none
    | none => match edgesV P f args h with
      | some r => some r
      | none => sortV P f args h
noncomputable def callF : Nat → FuncId → List Value → AW → Option (Value × AW)
  | 0, _, _, _ => none
  | n + 1, f, args, h =>
    match bodyOf P f with
    | some (fn, c) => match run P (callF n) n c { n := Nat.max args.length fn.ntmps, t := T.ofList args } h with
      | some (.exit _, _, _) => none
      | some (_, F, h) => match resultL P F h fn.results.toList with
        | some [v] => some (v, h)
        | some vs => some (.tuple ⟨vs⟩, h)
        | none => none
      | none => none
    | none => noBodyV P (fun fn c args => run P (callF n) n c { n := Nat.max args.length fn.ntmps, t := T.ofList args } ⟨P.globals.size, .nil, .nil, .nil, .nil⟩) f args h
end Go.Abs
end

section
/- More fuel does no harm: what a run comes to, said without fuel. -/
namespace Go.Abs
variable {P : Program}
abbrev CallFn := FuncId → List Value → AW → Option (Value × AW)
def CallLe (c c' : CallFn) : Prop := ∀ f a h r, c f a h = some r → c' f a h = some r
theorem stepOp_mono {c c' : CallFn} (hc : CallLe c c') {ops : List Oper} {o : Oper} {F : Fr} {h : AW} {r : Fr × AW} (hs : stepOp P c ops o F h = some r) : stepOp P c' ops o F h = some r := by
  unfold stepOp at hs ⊢
  split at hs
  · rename_i hg
    split at hs
    · rename_i v h2 hv
      split at hv
      · rename_i f args ats hop
        split at hv
        · rename_i f' args' ht
          try (rw [ht]; simp only)
          rw [hc _ _ _ _ hv]
          exact hs
        · cases hv
      · rename_i hn
        split
        · rename_i v' h2' hv'
          rw [hv] at hv'; cases hv'; exact hs
        · rename_i hv'
          rw [hv] at hv'; cases hv'
    · cases hs
  · rename_i hg
    exact hs
  · cases hs
theorem runOps_mono {c c' : CallFn} (hc : CallLe c c') {ops : List Oper} : ∀ {l : List Oper} {F : Fr} {h : AW} {r : Fr × AW}, runOps P c ops l F h = some r → runOps P c' ops l F h = some r
  | [], F, h, r, hs => hs
  | o :: l, F, h, r, hs => by
    simp only [runOps] at hs ⊢
    split at hs
    · rename_i F1 h1 h2
      rw [stepOp_mono hc h2]
      exact runOps_mono hc hs
    · cases hs
theorem actV_mono {c c' : CallFn} (hc : CallLe c c') {F : Fr} {h : AW} {o : Oper} {r : Value × AW} (hs : actV P c F h o = some r) : actV P c' F h o = some r := by
  unfold actV at hs ⊢
  split at hs
  · split at hs
    · rename_i h1
      exact hc _ _ _ _ hs
    · cases hs
  · exact hs
theorem traceOps_mono {vm : Option Nat} {c c' : CallFn} (hc : CallLe c c') {ops : List Oper} : ∀ {l : List Oper} {F : Fr} {h : AW} {r : List St × Fr × AW}, traceOps P vm c ops l F h = some r → traceOps P vm c' ops l F h = some r
  | [], F, h, r, hs => hs
  | o :: l, F, h, r, hs => by
    simp only [traceOps] at hs ⊢
    split at hs
    · cases hs
    · rename_i hg
      try (rw [hg]; simp only)
      split at hs
      · rename_i F1 hp
        try (rw [hp]; simp only)
        split at hs
        · rename_i tr r2 ht
          rw [traceOps_mono hc ht]; exact hs
        · cases hs
      · cases hs
    · rename_i hg
      try (rw [hg]; simp only)
      split at hs
      · rename_i v hq
        try (rw [hq]; simp only)
        split at hs
        · rename_i F1 hp
          try (rw [hp]; simp only)
          split at hs
          · rename_i tr r2 ht
            rw [traceOps_mono hc ht]; exact hs
          · cases hs
        · cases hs
      · rename_i hq
        try (rw [hq]; simp only)
        split at hs
        · rename_i v h1 ha
          rw [actV_mono hc ha]; simp only
          split at hs
          · rename_i F1 hp
            try (rw [hp]; simp only)
            split at hs
            · rename_i tr r2 ht
              rw [traceOps_mono hc ht]; exact hs
            · cases hs
          · cases hs
        · cases hs
theorem runDrawn_mono {c c' : CallFn} (hc : CallLe c c') {ops : Array Oper} {F : Fr} {h : AW} {r : Fr × AW} (hs : runDrawn P c ops F h = some r) : runDrawn P c' ops F h = some r := by
  unfold runDrawn at hs ⊢
  split at hs
  · cases hs
  · rename_i h1
    try (rw [h1]; simp only)
    split at hs
    · unfold runMaps at hs ⊢
      split at hs
      · rename_i tr F1 h2 ht
        rw [traceOps_mono hc ht]; exact hs
      · cases hs
    split at hs
    · rename_i tr F1 h2 ht
      rw [traceOps_mono hc ht]; exact hs
    · cases hs
theorem run_mono {c c' : CallFn} (hc : CallLe c c') : ∀ {n m : Nat}, n ≤ m → ∀ {d : Code} {F : Fr} {h : AW} {r : Ex × Fr × AW}, run P c n d F h = some r → run P c' m d F h = some r := by
  intro n
  induction n with
  | zero => intro m _ d F h r hs; simp [run] at hs
  | succ n ih =>
    intro m hm d F h r hs
    obtain ⟨m, rfl⟩ : ∃ k, m = k + 1 := ⟨m - 1, by omega⟩
    have hm : n ≤ m := by omega
    cases d with
    | region id ops draw =>
      cases draw with
      | false =>
        simp only [run] at hs ⊢
        split at hs
        · rename_i F1 h1 h2
          rw [runOps_mono hc h2]; exact hs
        · cases hs
      | true =>
        simp only [run] at hs ⊢
        split at hs
        · rename_i F1 h1 h2
          rw [runDrawn_mono hc h2]; exact hs
        · cases hs
    | seq a b =>
      simp only [run] at hs ⊢
      split at hs
      · rename_i F1 h1 h2
        rw [ih hm h2]; exact ih hm hs
      · rename_i hn
        cases ha : run P c n a F h with
        | none => rw [ha] at hs; cases hs
        | some r1 =>
          rw [ih hm ha]
          rw [ha] at hs hn
          obtain ⟨e, F1, h1⟩ := r1
          cases e with
          | normal => exact absurd rfl (hn F1 h1)
          | exit j => exact hs
          | ret => exact hs
    | cond x a b =>
      simp only [run] at hs ⊢
      split at hs
      · exact ih hm hs
      · exact ih hm hs
      · cases hs
    | block id b =>
      simp only [run] at hs ⊢
      cases hb : run P c n b F h with
      | none => rw [hb] at hs; cases hs
      | some r1 => rw [ih hm hb]; rw [hb] at hs; exact hs
    | loop b =>
      simp only [run] at hs ⊢
      split at hs
      · rename_i F1 h1 h2
        rw [ih hm h2]; exact ih hm hs
      · rename_i hn
        cases ha : run P c n b F h with
        | none => rw [ha] at hs; cases hs
        | some r1 =>
          rw [ih hm ha]
          rw [ha] at hs hn
          obtain ⟨e, F1, h1⟩ := r1
          cases e with
          | normal => exact absurd rfl (hn F1 h1)
          | exit j => exact hs
          | ret => exact hs
    | scope b => simp only [run] at hs ⊢; exact ih hm hs
    | rangeFunc g ps x y =>
      simp only [run] at hs ⊢
      split at hs
      · rename_i f1 a1 ht
        split at hs
        · rename_i v1 h1 hb hc1
          rw [hb, hc _ _ _ _ hc1]
          exact hs
        · cases hs
      · cases hs
    | _ => first | exact hs | (simp only [run] at hs ⊢; exact hs)
theorem callF_succ : ∀ (n : Nat), CallLe (callF P n) (callF P (n + 1))
  | 0 => fun f a h r hs => by simp [callF] at hs
  | n + 1 => fun f a h r hs => by
    rw [callF] at hs ⊢
    cases hb : bodyOf P f with
    | some p =>
      obtain ⟨fn, c⟩ := p
      rw [hb] at hs
      simp only at hs ⊢
      cases hr : run P (callF P n) n c { n := Nat.max a.length fn.ntmps, t := T.ofList a } h with
      | none => rw [hr] at hs; cases hs
      | some r1 => rw [run_mono (callF_succ n) (Nat.le_succ n) hr]; rw [hr] at hs; exact hs
    | none =>
      rw [hb] at hs
      simp only at hs ⊢
      unfold noBodyV at hs ⊢
      split at hs
      · exact hs
      · split at hs
        · rename_i fn c hc
          split at hs
          · rename_i hp
            simp only at hs ⊢
            cases hr : run P (callF P n) n c { n := Nat.max a.length fn.ntmps, t := T.ofList a } ⟨P.globals.size, .nil, .nil, .nil, .nil⟩ with
            | none => rw [hr] at hs; cases hs
            | some r1 => rw [run_mono (callF_succ n) (Nat.le_succ n) hr]; rw [hr] at hs; exact hs
          · cases hs
        · exact hs
theorem callF_mono {n m : Nat} (h : n ≤ m) : CallLe (callF P n) (callF P m) := by
  induction h with
  | refl => exact fun _ _ _ _ hs => hs
  | step _ ih => exact fun f a h r hs => callF_succ _ f a h r (ih f a h r hs)
end Go.Abs
end

section
/- What code comes to, said without fuel: rules. -/
namespace Go.Abs
variable {P : Program}
def Evals (P : Program) (f : FuncId) (args : List Value) (h : AW) (v : Value) (h' : AW) : Prop := ∃ n, callF P n f args h = some (v, h')
def Runs (P : Program) (c : Code) (F : Fr) (h : AW) (e : Ex) (F' : Fr) (h' : AW) : Prop := ∃ n k, run P (callF P n) k c F h = some (e, F', h')
def Steps (P : Program) (ops : List Oper) (o : Oper) (F : Fr) (h : AW) (F' : Fr) (h' : AW) : Prop := ∃ n, stepOp P (callF P n) ops o F h = some (F', h')
def Opss (P : Program) (ops l : List Oper) (F : Fr) (h : AW) (F' : Fr) (h' : AW) : Prop := ∃ n, runOps P (callF P n) ops l F h = some (F', h')
theorem Opss.nil {ops : List Oper} {F : Fr} {h : AW} : Opss P ops [] F h F h := ⟨0, rfl⟩
theorem Opss.cons {ops l : List Oper} {o : Oper} {F F1 F2 : Fr} {h h1 h2 : AW} (a : Steps P ops o F h F1 h1) (b : Opss P ops l F1 h1 F2 h2) : Opss P ops (o :: l) F h F2 h2 := by
  obtain ⟨n, a⟩ := a
  obtain ⟨m, b⟩ := b
  refine ⟨Nat.max n m, ?_⟩
  rw [runOps, stepOp_mono (callF_mono (Nat.le_max_left n m)) a]
  exact runOps_mono (callF_mono (Nat.le_max_right n m)) b
theorem Runs.region {id : Nat} {ops : Array Oper} {F F' : Fr} {h h' : AW} (a : Opss P ops.toList ops.toList F h F' h') : Runs P (.region id ops false) F h .normal F' h' := by
  obtain ⟨n, a⟩ := a
  exact ⟨n, 1, by simp only [run]; rw [a]⟩
theorem Runs.skip {F : Fr} {h : AW} : Runs P .skip F h .normal F h := ⟨0, 1, rfl⟩
theorem Runs.label {l : Nat} {F : Fr} {h : AW} : Runs P (.label l) F h .normal F h := ⟨0, 1, rfl⟩
theorem Runs.over {g : Operand} {ps : Array Tmp} {x y : Code} {F : Fr} {h h1 : AW} {f : FuncId} {args : List Value} {v : Value} (ht : overF F g = some (f, args)) (hb : hasBody P f = true) (hv : Evals P f args h v h1) : Runs P (.rangeFunc g ps x y) F h .normal F h1 := by
  obtain ⟨n, hv⟩ := hv
  exact ⟨n, 1, by simp only [run]; rw [ht]; simp only; rw [hb, hv]⟩
theorem Runs.ret {F : Fr} {h : AW} : Runs P .ret F h .ret F h := ⟨0, 1, rfl⟩
theorem Runs.exit {id : Nat} {F : Fr} {h : AW} : Runs P (.exit id) F h (.exit id) F h := ⟨0, 1, rfl⟩
theorem Runs.seq {a b : Code} {F F1 F2 : Fr} {h h1 h2 : AW} {e : Ex} (x : Runs P a F h .normal F1 h1) (y : Runs P b F1 h1 e F2 h2) : Runs P (.seq a b) F h e F2 h2 := by
  obtain ⟨n, k, x⟩ := x
  obtain ⟨m, j, y⟩ := y
  refine ⟨Nat.max n m, Nat.max k j + 1, ?_⟩
  simp only [run]
  rw [run_mono (callF_mono (Nat.le_max_left n m)) (Nat.le_max_left k j) x]
  exact run_mono (callF_mono (Nat.le_max_right n m)) (Nat.le_max_right k j) y
theorem Runs.seq_out {a b : Code} {F F1 : Fr} {h h1 : AW} {e : Ex} (he : e ≠ .normal) (x : Runs P a F h e F1 h1) : Runs P (.seq a b) F h e F1 h1 := by
  obtain ⟨n, k, x⟩ := x
  refine ⟨n, k + 1, ?_⟩
  simp only [run]
  rw [x]
  cases e with
  | normal => exact absurd rfl he
  | _ => rfl
theorem Runs.cond_t {c : Operand} {a b : Code} {F F1 : Fr} {h h1 : AW} {e : Ex} (hc : F.ev c = .bool true) (x : Runs P a F h e F1 h1) : Runs P (.cond c a b) F h e F1 h1 := by
  obtain ⟨n, k, x⟩ := x
  exact ⟨n, k + 1, by simp only [run]; rw [hc]; exact x⟩
theorem Runs.cond_f {c : Operand} {a b : Code} {F F1 : Fr} {h h1 : AW} {e : Ex} (hc : F.ev c = .bool false) (x : Runs P b F h e F1 h1) : Runs P (.cond c a b) F h e F1 h1 := by
  obtain ⟨n, k, x⟩ := x
  exact ⟨n, k + 1, by simp only [run]; rw [hc]; exact x⟩
theorem Runs.scope {a : Code} {F F1 : Fr} {h h1 : AW} {e : Ex} (x : Runs P a F h e F1 h1) : Runs P (.scope a) F h e F1 h1 := by
  obtain ⟨n, k, x⟩ := x
  exact ⟨n, k + 1, by simp only [run]; exact x⟩
def outOf (id : Nat) : Ex → Ex
  | .exit j => match Nat.beq j id with | true => .normal | false => .exit j
  | e => e
theorem Runs.block {id : Nat} {a : Code} {F F1 : Fr} {h h1 : AW} {e : Ex} (x : Runs P a F h e F1 h1) : Runs P (.block id a) F h (outOf id e) F1 h1 := by
  obtain ⟨n, k, x⟩ := x
  refine ⟨n, k + 1, ?_⟩
  simp only [run]
  rw [x]
  cases e with
  | exit j =>
    simp only [outOf]
    cases Nat.beq j id <;> rfl
  | _ => rfl
theorem Runs.loop_on {a : Code} {F F1 F2 : Fr} {h h1 h2 : AW} {e : Ex} (x : Runs P a F h .normal F1 h1) (y : Runs P (.loop a) F1 h1 e F2 h2) : Runs P (.loop a) F h e F2 h2 := by
  obtain ⟨n, k, x⟩ := x
  obtain ⟨m, j, y⟩ := y
  refine ⟨Nat.max n m, Nat.max k j + 1, ?_⟩
  rw [run]
  rw [run_mono (callF_mono (Nat.le_max_left n m)) (Nat.le_max_left k j) x]
  exact run_mono (callF_mono (Nat.le_max_right n m)) (Nat.le_max_right k j) y
theorem Runs.loop_out {a : Code} {F F1 : Fr} {h h1 : AW} {e : Ex} (he : e ≠ .normal) (x : Runs P a F h e F1 h1) : Runs P (.loop a) F h e F1 h1 := by
  obtain ⟨n, k, x⟩ := x
  refine ⟨n, k + 1, ?_⟩
  rw [run]
  rw [x]
  cases e with
  | normal => exact absurd rfl he
  | _ => rfl
theorem Evals.of_runs {f : FuncId} {args : List Value} {h h' : AW} {fn : Func} {c : Code} {e : Ex} {F' : Fr} {v : Value} (hb : bodyOf P f = some (fn, c)) (x : Runs P c { n := Nat.max args.length fn.ntmps, t := T.ofList args } h e F' h') (he : ∀ j, e ≠ .exit j)
    (hr : (match resultL P F' h' fn.results.toList with | some [v] => some v | some vs => some (.tuple ⟨vs⟩) | none => none) = some v) : Evals P f args h v h' := by
  obtain ⟨n, k, x⟩ := x
  refine ⟨Nat.max n k + 1, ?_⟩
  rw [callF, hb]
  simp only
  rw [run_mono (callF_mono (Nat.le_max_left n k)) (Nat.le_max_right n k) x]
  cases e with
  | exit j => exact absurd rfl (he j)
  | _ =>
    simp only
    split at hr
    · rename_i hl; (try rw [hl]); simp only [Option.some.injEq] at hr; rw [hr]
    · rename_i vs hne hl; simp only [Option.some.injEq] at hr; subst hr; (try rw [hl])
      match vs, hne with
      | [], _ => rfl
      | [v], hne => exact absurd rfl (hne v)
      | _ :: _ :: _, _ => rfl
    · cases hr
end Go.Abs
end

section
/- The relation between the deterministic semantics' heap and the model's world. -/
namespace Go.Abs
namespace T
variable {α : Type}
theorem get?_nil (n : Nat) : (nil : T α).get? n = none := rfl
theorem get?_setF (f : Nat) : ∀ (t : T α) (n : Nat) (a : α) (m : Nat), n < f → (setF f t n a).get? m = if m = n then some a else t.get? m := by
  induction f with
  | zero => intro t n a m h; omega
  | succ f ih =>
    intro t n a m hn
    have e0 : ∀ k, Nat.beq k 0 = decide (k = 0) := fun k => by
      cases k <;> simp [Nat.beq]
    have e1 : ∀ k, Nat.beq k 1 = decide (k = 1) := fun k => by
      rw [Bool.eq_iff_iff]; simp [Nat.beq_eq]
    have node : ∀ (l : T α) (v : Option α) (r : T α), (setF (f + 1) (node l v r) n a).get? m = if m = n then some a else (T.node l v r).get? m := by
      intro l v r
      simp only [setF, e0, e1]
      by_cases n0 : n = 0
      · subst n0
        simp only [decide_true]
        by_cases m0 : m = 0
        · subst m0; simp [get?, e0]
        · simp [get?, e0, m0]
      · simp only [n0, decide_false]
        by_cases n1 : n % 2 = 1
        · simp only [n1, decide_true]
          by_cases m0 : m = 0
          · subst m0; simp [get?, e0, Ne.symm n0]
          · by_cases m1 : m % 2 = 1
            · simp only [get?, e0, e1, m0, m1, decide_true, decide_false]
              rw [ih l (n / 2) a (m / 2) (by omega)]
              have : (m / 2 = n / 2) ↔ m = n := by omega
              simp [this]
            · have hne : m ≠ n := fun e => m1 (e ▸ n1)
              simp [get?, e0, e1, m0, m1, hne]
        · simp only [n1, decide_false]
          by_cases m0 : m = 0
          · subst m0; simp [get?, e0, Ne.symm n0]
          · by_cases m1 : m % 2 = 1
            · have hne : m ≠ n := fun e => n1 (e ▸ m1)
              simp [get?, e0, e1, m0, m1, hne]
            · simp only [get?, e0, e1, m0, m1, decide_false]
              rw [ih r (n / 2 - 1) a (m / 2 - 1) (by omega)]
              have : (m / 2 - 1 = n / 2 - 1) ↔ m = n := by omega
              simp [this]
    cases t with
    | node l v r => exact node l v r
    | nil =>
      have hs : setF (f + 1) (nil : T α) n a = setF (f + 1) (.node nil none nil) n a := by simp only [setF]
      rw [hs, node nil none nil]
      have : (T.node nil none nil : T α).get? m = (nil : T α).get? m := by
        simp only [get?]
        cases Nat.beq m 0 <;> cases Nat.beq (m % 2) 1 <;> rfl
      rw [this]
theorem get?_set (t : T α) (n : Nat) (a : α) (m : Nat) : (t.set n a).get? m = if m = n then some a else t.get? m := get?_setF _ _ _ _ _ (by omega)
theorem get?_set_same (t : T α) (n : Nat) (a : α) : (t.set n a).get? n = some a := by simp [get?_set]
theorem get?_set_ne (t : T α) {n m : Nat} (a : α) (h : m ≠ n) : (t.set n a).get? m = t.get? m := by simp [get?_set, h]
theorem get?_setL (l : List α) : ∀ (t : T α) (n m : Nat), (t.setL n l).get? m = if n ≤ m ∧ m < n + l.length then l[m - n]? else t.get? m := by
  induction l with
  | nil => intro t n m; simp only [setL, List.length_nil]; rw [if_neg (by omega)]
  | cons a l ih =>
    intro t n m
    simp only [setL, ih, get?_set, List.length_cons]
    by_cases h : n + 1 ≤ m ∧ m < n + 1 + l.length
    · rw [if_pos h, if_pos (by omega), show m - n = (m - (n + 1)) + 1 from by omega, List.getElem?_cons_succ]
    · rw [if_neg h]
      by_cases hm : m = n
      · subst hm; simp
      · rw [if_neg hm, if_neg (by omega)]
theorem get?_ofList (l : List α) (m : Nat) : (ofList l).get? m = l[m]? := by
  unfold ofList
  rw [get?_setL]
  by_cases h : m < l.length
  · rw [if_pos (by omega)]; simp
  · rw [if_neg (by omega)]; simp [get?_nil, List.getElem?_eq_none (Nat.le_of_not_lt h)]
end T
def L2 {α β : Type} (R : α → β → Prop) (l : List α) (l' : List β) : Prop :=
  l.length = l'.length ∧ ∀ (i : Nat) v v', l[i]? = some v → l'[i]? = some v' → R v v'
namespace L2
variable {α β : Type} {R : α → β → Prop}
theorem nil : L2 R [] [] := ⟨rfl, fun i v v' h => by simp at h⟩
theorem cons {a : α} {b : β} {l : List α} {l' : List β} (h : R a b) (t : L2 R l l') : L2 R (a :: l) (b :: l') :=
  ⟨by simp [t.1], fun i v v' hv hv' => by
    cases i with
    | zero => simp at hv hv'; exact hv ▸ hv' ▸ h
    | succ i => simp at hv hv'; exact t.2 i v v' hv hv'⟩
theorem head {a : α} {b : β} {l : List α} {l' : List β} (h : L2 R (a :: l) (b :: l')) : R a b := h.2 0 a b rfl rfl
theorem tail {a : α} {b : β} {l : List α} {l' : List β} (h : L2 R (a :: l) (b :: l')) : L2 R l l' :=
  ⟨by simpa using h.1, fun i v v' hv hv' => h.2 (i + 1) v v' (by simpa using hv) (by simpa using hv')⟩
theorem nil_left {l' : List β} (h : L2 R [] l') : l' = [] := List.eq_nil_of_length_eq_zero h.1.symm
theorem cons_left {a : α} {l : List α} {l' : List β} (h : L2 R (a :: l) l') : ∃ b t, l' = b :: t ∧ R a b ∧ L2 R l t := by
  cases l' with
  | nil => have := h.1; simp at this
  | cons b t => exact ⟨b, t, rfl, h.head, h.tail⟩
theorem mono {S : α → β → Prop} {l : List α} {l' : List β} (hs : ∀ a b, R a b → S a b) (h : L2 R l l') : L2 S l l' := ⟨h.1, fun i v v' a b => hs _ _ (h.2 i v v' a b)⟩
theorem append {l m : List α} {l' m' : List β} (h : L2 R l l') (k : L2 R m m') : L2 R (l ++ m) (l' ++ m') := by
  refine ⟨by simp [h.1, k.1], fun i v v' hv hv' => ?_⟩
  rw [List.getElem?_append] at hv hv'
  rw [← h.1] at hv'
  split at hv
  · rename_i hi; rw [if_pos hi] at hv'; exact h.2 i v v' hv hv'
  · rename_i hi; rw [if_neg hi] at hv'; exact k.2 _ v v' hv hv'
theorem get {l : List α} {l' : List β} (h : L2 R l l') {i : Nat} {v : α} (hv : l[i]? = some v) : ∃ v', l'[i]? = some v' ∧ R v v' := by
  have hi : i < l.length := (List.getElem?_eq_some_iff.1 hv).1
  have hi' : i < l'.length := h.1 ▸ hi
  exact ⟨l'[i], List.getElem?_eq_getElem hi', h.2 i v _ hv (List.getElem?_eq_getElem hi')⟩
theorem drop {l : List α} {l' : List β} (h : L2 R l l') (n : Nat) : L2 R (l.drop n) (l'.drop n) :=
  ⟨by simp [h.1], fun i v v' hv hv' => h.2 (n + i) v v' (by simpa using hv) (by simpa using hv')⟩
theorem take {l : List α} {l' : List β} (h : L2 R l l') (n : Nat) : L2 R (l.take n) (l'.take n) := by
  refine ⟨by simp [h.1], fun i v v' hv hv' => ?_⟩
  rw [List.getElem?_take] at hv hv'
  split at hv
  · rename_i hi; rw [if_pos hi] at hv'; exact h.2 i v v' hv hv'
  · cases hv
theorem set {l : List α} {l' : List β} (h : L2 R l l') (n : Nat) {a : α} {b : β} (hab : R a b) : L2 R (l.set n a) (l'.set n b) := by
  refine ⟨by simp [h.1], fun i v v' hv hv' => ?_⟩
  rw [List.getElem?_set] at hv hv'
  split at hv
  · rename_i hi
    rw [if_pos hi] at hv'
    split at hv
    · rename_i hl
      rw [if_pos (h.1 ▸ hl)] at hv'
      simp at hv hv'; exact hv ▸ hv' ▸ hab
    · cases hv
  · rename_i hi; rw [if_neg hi] at hv'; exact h.2 i v v' hv hv'
theorem map {γ δ : Type} {S : γ → δ → Prop} {l : List γ} {l' : List δ} {f : γ → α} {g : δ → β} (hs : ∀ a b, S a b → R (f a) (g b)) (h : L2 S l l') : L2 R (l.map f) (l'.map g) := by
  refine ⟨by simp [h.1], fun i v v' hv hv' => ?_⟩
  rw [List.getElem?_map] at hv hv'
  cases ha : l[i]? with
  | none => simp [ha] at hv
  | some a =>
    cases hb : l'[i]? with
    | none => simp [hb] at hv'
    | some b =>
      simp [ha] at hv; simp [hb] at hv'
      exact hv ▸ hv' ▸ hs _ _ (h.2 i a b ha hb)
theorem self_map {γ : Type} {l : List γ} {f : γ → α} {g : γ → β} (hs : ∀ a, a ∈ l → R (f a) (g a)) : L2 R (l.map f) (l.map g) := by
  refine ⟨by simp, fun i v v' hv hv' => ?_⟩
  rw [List.getElem?_map] at hv hv'
  cases ha : l[i]? with
  | none => simp [ha] at hv
  | some a =>
    simp [ha] at hv hv'
    exact hv ▸ hv' ▸ hs _ (List.mem_of_getElem? ha)
end L2
abbrev Map := Nat → Option (Nat × Nat × Nat)
def Map.le (φ ψ : Map) : Prop := ∀ i x, φ i = some x → ψ i = some x
theorem Map.le_refl (φ : Map) : φ.le φ := fun _ _ h => h
theorem Map.le_trans {a b c : Map} (h : a.le b) (k : b.le c) : a.le c := fun i x hx => k i x (h i x hx)
def Map.add (φ : Map) (i : Nat) (x : Nat × Nat × Nat) : Map := fun j => if j = i then some x else φ j
theorem Map.le_add {φ : Map} {i : Nat} {x : Nat × Nat × Nat} (h : φ i = none) : φ.le (φ.add i x) := fun j y hy => by
  unfold Map.add
  split
  · rename_i e; subst e; simp [h] at hy
  · exact hy
theorem Map.add_same (φ : Map) (i : Nat) (x : Nat × Nat × Nat) : φ.add i x i = some x := by simp [Map.add]
theorem Map.add_ne (φ : Map) {i j : Nat} (x : Nat × Nat × Nat) (h : j ≠ i) : φ.add i x j = φ j := by simp [Map.add, h]
inductive VRel (φ : Map) : Value → Value → Prop where
  | bool (b : Bool) : VRel φ (.bool b) (.bool b)
  | int (k : IntKind) (n : Int) : VRel φ (.int k n) (.int k n)
  | string (s : ByteArray) : VRel φ (.string s) (.string s)
  | ptrN : VRel φ (.pointer none) (.pointer none)
  | ptr {i off b σ κ : Nat} (h : φ i = some (b, σ, κ)) (hs : σ ≤ off) : VRel φ (.pointer (some ⟨i, off, none⟩)) (.pointer (some ⟨b, off - σ, none⟩))
  | sliceN (n c : Nat) : VRel φ (.slice none n c) (.slice none n c)
  | slice {i off b σ κ len cap : Nat} {a' : Addr} (h : φ i = some (b, σ, κ)) (hs : σ ≤ off) (ho : a' = ⟨b, off - σ, none⟩ ∨ (len = 0 ∧ cap + κ = 0)) :
      VRel φ (.slice (some ⟨i, off, none⟩) len cap) (.slice (some a') len (cap + κ))
  | mapN : VRel φ (.map none) (.map none)
  | map {i b σ κ : Nat} (h : φ i = some (b, σ, κ)) : VRel φ (.map (some i)) (.map (some b))
  | func (fn : Fn) {f f' c c' : List Value} (hf : f.length = f'.length) (hfs : ∀ (i : Nat) v v', f[i]? = some v → f'[i]? = some v' → VRel φ v v')
      (hc : c.length = c'.length) (hcs : ∀ (i : Nat) v v', c[i]? = some v → c'[i]? = some v' → VRel φ v v') : VRel φ (.func fn ⟨f⟩ ⟨c⟩) (.func fn ⟨f'⟩ ⟨c'⟩)
  | nilFunc : VRel φ .nilFunc .nilFunc
  | iface (t : TypeId) {v v' : Value} (h : VRel φ v v') : VRel φ (.iface t v) (.iface t v')
  | nilIface : VRel φ .nilIface .nilIface
  | agg {l l' : List Value} (hl : l.length = l'.length) (h : ∀ (i : Nat) v v', l[i]? = some v → l'[i]? = some v' → VRel φ v v') : VRel φ (.agg ⟨l⟩) (.agg ⟨l'⟩)
  | tuple {l l' : List Value} (hl : l.length = l'.length) (h : ∀ (i : Nat) v v', l[i]? = some v → l'[i]? = some v' → VRel φ v v') : VRel φ (.tuple ⟨l⟩) (.tuple ⟨l'⟩)
  | yield (l : Nat) : VRel φ (.chan none) (.func (.yield l) #[] #[])
theorem VRel.mono {φ ψ : Map} (hm : φ.le ψ) {v v' : Value} (h : VRel φ v v') : VRel ψ v v' := by
  induction h with
  | bool b => exact .bool b
  | int k n => exact .int k n
  | string s => exact .string s
  | ptrN => exact .ptrN
  | ptr h hs => exact .ptr (hm _ _ h) hs
  | sliceN n c => exact .sliceN n c
  | slice h hs ho => exact .slice (hm _ _ h) hs ho
  | mapN => exact .mapN
  | map h => exact .map (hm _ _ h)
  | func fn hf _ hc _ ih1 ih2 => exact .func fn hf ih1 hc ih2
  | nilFunc => exact .nilFunc
  | iface t _ ih => exact .iface t ih
  | nilIface => exact .nilIface
  | agg hl _ ih => exact .agg hl ih
  | tuple hl _ ih => exact .tuple hl ih
  | yield l => exact .yield l
abbrev LRel (φ : Map) (l l' : List Value) : Prop := L2 (VRel φ) l l'
theorem LRel.mono {φ ψ : Map} (hm : φ.le ψ) {l l' : List Value} (h : LRel φ l l') : LRel ψ l l' := L2.mono (fun _ _ => VRel.mono hm) h
theorem VRel.agg' {φ : Map} {l l' : List Value} (h : LRel φ l l') : VRel φ (.agg ⟨l⟩) (.agg ⟨l'⟩) := .agg h.1 h.2
theorem VRel.tuple' {φ : Map} {l l' : List Value} (h : LRel φ l l') : VRel φ (.tuple ⟨l⟩) (.tuple ⟨l'⟩) := .tuple h.1 h.2
theorem VRel.func' {φ : Map} (fn : Fn) {f f' c c' : List Value} (h : LRel φ f f') (k : LRel φ c c') : VRel φ (.func fn ⟨f⟩ ⟨c⟩) (.func fn ⟨f'⟩ ⟨c'⟩) := .func fn h.1 h.2 k.1 k.2
theorem VRel.undef {φ : Map} : VRel φ undef undef := VRel.tuple' L2.nil
theorem VRel.cells {φ : Map} {v v' : Value} (h : VRel φ v v') : LRel φ v.cells.toList v'.cells.toList := by
  cases h with
  | agg hl h => exact ⟨hl, h⟩
  | bool b => exact L2.cons (.bool b) L2.nil
  | int k n => exact L2.cons (.int k n) L2.nil
  | string s => exact L2.cons (.string s) L2.nil
  | ptrN => exact L2.cons .ptrN L2.nil
  | ptr h hs => exact L2.cons (.ptr h hs) L2.nil
  | sliceN n c => exact L2.cons (.sliceN n c) L2.nil
  | slice h hs ho => exact L2.cons (.slice h hs ho) L2.nil
  | mapN => exact L2.cons .mapN L2.nil
  | map h => exact L2.cons (.map h) L2.nil
  | func fn hf hfs hc hcs => exact L2.cons (.func fn hf hfs hc hcs) L2.nil
  | nilFunc => exact L2.cons .nilFunc L2.nil
  | iface t h => exact L2.cons (.iface t h) L2.nil
  | nilIface => exact L2.cons .nilIface L2.nil
  | tuple hl h => exact L2.cons (.tuple hl h) L2.nil
  | yield l => exact L2.cons (.yield l) L2.nil
theorem VRel.one {φ : Map} {v v' : Value} (h : VRel φ v v') (h1 : oneCell v = true) : v'.oneCell' = true := by
  cases h <;> first | rfl | (simp [oneCell] at h1)
theorem allOne_spec : ∀ {l : List Value}, allOne l = true → ∀ v ∈ l, oneCell v = true
  | [], _, v, h => by simp at h
  | x :: l, h, v, hv => by
    unfold allOne at h
    split at h
    · rename_i hx
      rcases List.mem_cons.1 hv with rfl | hm
      · exact hx
      · exact allOne_spec h v hm
    · cases h
theorem LRel.one {φ : Map} {l l' : List Value} (h : LRel φ l l') (h1 : allOne l = true) : ∀ u ∈ l', u.oneCell' = true := by
  intro u hu
  obtain ⟨i, hi⟩ := List.getElem?_of_mem hu
  have hlt : i < l.length := by have := (List.getElem?_eq_some_iff.1 hi).1; rw [h.1]; exact this
  exact (h.2 i l[i] u (List.getElem?_eq_getElem hlt) hi).one (allOne_spec h1 _ (List.getElem_mem hlt))
theorem flatL_rel {φ : Map} : ∀ {l : List Value}, flat.flatL l = true → LRel φ l l
  | [], _ => L2.nil
  | v :: l, h => by
    have aux : ∀ (x : Value), VRel φ x x → flat.flatL l = true → LRel φ (x :: l) (x :: l) := fun x hx hl => L2.cons hx (flatL_rel hl)
    cases v with
    | bool b => exact aux _ (.bool b) h
    | int k n => exact aux _ (.int k n) h
    | string s => exact aux _ (.string s) h
    | pointer a => cases a with
      | none => exact aux _ .ptrN h
      | some a => simp [flat.flatL] at h
    | slice a n c => cases a with
      | none => exact aux _ (.sliceN n c) h
      | some a => simp [flat.flatL] at h
    | map r => cases r with
      | none => exact aux _ .mapN h
      | some a => simp [flat.flatL] at h
    | nilFunc => exact aux _ .nilFunc h
    | nilIface => exact aux _ .nilIface h
    | _ => simp [flat.flatL] at h
theorem flat_rel {φ : Map} {v : Value} (h : flat v = true) : VRel φ v v := by
  cases v with
  | bool b => exact .bool b
  | int k n => exact .int k n
  | string s => exact .string s
  | pointer a => cases a with
    | none => exact .ptrN
    | some a => simp [flat] at h
  | slice a n c => cases a with
    | none => exact .sliceN n c
    | some a => simp [flat] at h
  | map r => cases r with
    | none => exact .mapN
    | some a => simp [flat] at h
  | nilFunc => exact .nilFunc
  | nilIface => exact .nilIface
  | agg cs => exact VRel.agg' (flatL_rel (by simpa [flat] using h))
  | tuple cs => exact VRel.tuple' (flatL_rel (by simpa [flat] using h))
  | _ => simp [flat] at h
end Go.Abs
end

section
/- The relation of the heaps, and what one cell's reading and writing do to it. -/
open Go.RowKit
namespace Go.Abs
structure Zn where
  R : Nat → Prop
  Z : Nat → Prop
  sub : ∀ k, R k → Z k
def Zn.lt (B : Nat) : Zn := ⟨fun k => k < B, fun k => k < B, fun _ h => h⟩
structure BelowZ (B : Zn) (w w' : World) : Prop where
  os : w'.os = w.os
  tape : w'.tape = w.tape
  output : w'.output = w.output
  size : w.heap.size ≤ w'.heap.size
  block : ∀ k, B.Z k → w'.heap[k]? = w.heap[k]?
theorem BelowZ.refl (B : Zn) (w : World) : BelowZ B w w := ⟨rfl, rfl, rfl, Nat.le_refl _, fun _ _ => rfl⟩
theorem BelowZ.trans {B : Zn} {a b c : World} (h : BelowZ B a b) (k : BelowZ B b c) : BelowZ B a c :=
  ⟨k.os.trans h.os, k.tape.trans h.tape, k.output.trans h.output, Nat.le_trans h.size k.size, fun i hi => (k.block i hi).trans (h.block i hi)⟩
theorem BelowZ.drew {B : Zn} {a w : World} (h : BelowZ B a w) : BelowZ B a w.drew := ⟨h.os, h.tape, h.output, h.size, h.block⟩
theorem BelowZ.alloc {B : Zn} {a w : World} (h : BelowZ B a w) (hB : ∀ k, B.Z k → k < w.heap.size) (o : Obj) : BelowZ B a (w.alloc o) :=
  h.trans ⟨rfl, rfl, rfl, by simp, fun k hk => Below.heap_alloc _ _ _ (hB k hk)⟩
theorem BelowZ.setCell {B : Zn} {a w : World} (h : BelowZ B a w) {p : Addr} (hp : ¬ B.Z p.block) (u : Value) : BelowZ B a (w.setCell p u) :=
  h.trans ⟨rfl, rfl, rfl, by simp [World.setCell], fun k hk => Below.heap_setCell _ _ _ _ (fun e => hp (e ▸ hk))⟩
theorem BelowZ.below {B : Nat} {w w' : World} (h : BelowZ (Zn.lt B) w w') : Below B w w' := ⟨h.os, h.tape, h.output, h.size, h.block⟩
def hard (w : World) (b off : Nat) : Bool :=
  match w.heap[b]? with
  | some (.cells _ _ (lo, hi)) => (decide (lo ≤ off) && decide (off < hi)) || decide (hi < lo)
  | _ => false
theorem hard_frozen {w : World} {b off : Nat} (h : hard w b off = false) : w.frozen? ⟨b, off, none⟩ = false := by
  unfold hard at h
  simp only [World.frozen?]
  split <;> rename_i e
  · rw [e] at h
    simp only [Bool.or_eq_false_iff] at h
    exact h.1
  · rfl
theorem hard_setCell (w : World) (a : Addr) (v : Value) (b off : Nat) : hard (w.setCell a v) b off = hard w b off := by
  unfold hard
  simp only [World.setCell, Array.getElem?_modify]
  by_cases e : a.block = b
  · subst e
    rw [if_pos rfl]
    cases w.heap[a.block]? with
    | none => rfl
    | some o => cases o <;> rfl
  · rw [if_neg e]
theorem hard_alloc_new (w : World) (c : Array Value) (e : TypeId) (off : Nat) : hard (w.alloc (.cells c e)) w.heap.size off = false := by
  unfold hard
  rw [Go.heap_alloc_new]
  simp
def ORel (φ : Map) (fams : T Fam) (B0 : Zn) (w : World) (b σ κ : Nat) : AObj → Prop
  | .var cs n ro => σ = 0 ∧ κ = 0 ∧ (∀ off v, off < n → cs.get? off = some v → ∃ v', w.cell? ⟨b, off, none⟩ = some v' ∧ VRel φ v v') ∧
      (ro = false → ¬ B0.Z b ∧ ∀ off, off < n → (∃ u, w.cell? ⟨b, off, none⟩ = some u) ∧ hard w b off = false) ∧ (ro = true → B0.R b ∨ n = 0)
  | .row f g lo hi sz cs => ∀ fm, fams.get? f = some fm → fm.gen = g →
      ¬ B0.Z b ∧ σ ≤ lo ∧ hi ≤ fm.ext ∧ (∀ c v, lo ≤ c → c < hi → cs.get? c = some v → ∃ v', w.cell? ⟨b, c - σ, none⟩ = some v' ∧ VRel φ v v') ∧
      (∀ c, lo ≤ c → c < hi + κ * sz → ∃ u, w.cell? ⟨b, c - σ, none⟩ = some u) ∧
      (∀ c, fm.frz ≤ c → lo ≤ c → c < hi + κ * sz → w.frozen? ⟨b, c - σ, none⟩ = false)
  | .map es => σ = 0 ∧ κ = 0 ∧ ¬ B0.Z b ∧ ∃ ents clock, w.heap[b]? = some (.map ents clock) ∧ L2 (fun (p : Value × Value) (e : MapEntry) => VRel φ p.1 e.key ∧ VRel φ p.2 e.val) es ents.toList ∧ MapKept.Stamped ents clock
def live (fams : T Fam) : AObj → Prop
  | .var _ _ ro => ro = false
  | .row f g _ _ _ _ => ∃ fm, fams.get? f = some fm ∧ fm.gen = g
  | .map _ => True
def kin : AObj → AObj → Prop
  | .row f _ _ _ _ _, .row f' _ _ _ _ _ => f = f'
  | _, _ => False
def ExactM (w : World) (b : Nat) : Prop := ∃ (e : Array MapEntry) (n : Nat), w.heap[b]? = some (Obj.map e n) ∧ n = e.size ∧ ∀ (j : Nat) (x : MapEntry), e[j]? = some x → x.born = j
def Cast (w w' : World) : Prop := (∀ (b : Nat) (c : Array Value) (t : TypeId) (fz : Nat × Nat), w.heap[b]? = some (Obj.cells c t fz) → ∃ (c' : Array Value) (fz' : Nat × Nat), w'.heap[b]? = some (Obj.cells c' t fz')) ∧
  (∀ b : Nat, w.heap[b]? = some (Obj.mapIter none 0 #[] 0) → w'.heap[b]? = some (Obj.mapIter none 0 #[] 0)) ∧ ∀ b : Nat, ExactM w b → ExactM w' b
theorem Cast.refl (w : World) : Cast w w := ⟨fun _ c _ fz h => ⟨c, fz, h⟩, fun _ h => h, fun _ h => h⟩
theorem Cast.trans {a b c : World} (h : Cast a b) (k : Cast b c) : Cast a c := ⟨fun i x t f hx => let ⟨y, g, hy⟩ := h.1 i x t f hx; k.1 i y t g hy, fun i hi => k.2.1 i (h.2.1 i hi), fun i hi => k.2.2 i (h.2.2 i hi)⟩
theorem ExactM.keep {w w' : World} {b : Nat} (h : ExactM w b) (hk : ∀ e n, w.heap[b]? = some (Obj.map e n) → w'.heap[b]? = some (Obj.map e n)) : ExactM w' b := by
  obtain ⟨e, n, h1, h2⟩ := h
  exact ⟨e, n, hk e n h1, h2⟩
theorem Cast.alloc (w : World) (o : Obj) : Cast w (w.alloc o) := by
  have key : ∀ (b : Nat) (x : Obj), w.heap[b]? = some x → (w.alloc o).heap[b]? = some x := fun b x h => by
    have hlt : b < w.heap.size := (Array.getElem?_eq_some_iff.1 h).1
    simp only [World.alloc, Array.getElem?_push]
    rw [if_neg (by omega)]
    exact h
  exact ⟨fun b c t fz h => ⟨c, fz, key b _ h⟩, fun b h => key b _ h, fun b h => h.keep fun e n h => key b _ h⟩
theorem Cast.setCell (w : World) (a : Addr) (v : Value) : Cast w (w.setCell a v) := by
  refine ⟨fun b c t fz h => ?_, fun b h => ?_, fun b h => h.keep fun e n h => ?_⟩
  rotate_left
  iterate 2
    · simp only [World.setCell, Array.getElem?_modify]
      by_cases e : a.block = b
      · subst e; rw [if_pos rfl, h]; rfl
      · rw [if_neg e]; exact h
  simp only [World.setCell, Array.getElem?_modify]
  by_cases e : a.block = b
  · subst e; rw [if_pos rfl, h]; exact ⟨_, _, rfl⟩
  · rw [if_neg e]; exact ⟨_, _, h⟩
theorem Cast.freeze (w : World) (a : Addr) (n : Nat) : Cast w (w.freeze a n) := by
  refine ⟨fun b c t fz h => ?_, fun b h => ?_, fun b h => h.keep fun e n h => ?_⟩
  rotate_left
  iterate 2
    · unfold World.freeze
      split
      · exact h
      · simp only [Array.getElem?_modify]
        by_cases e : a.block = b
        · subst e; rw [if_pos rfl, h]; rfl
        · rw [if_neg e]; exact h
  unfold World.freeze
  split
  · exact ⟨_, _, h⟩
  · simp only [Array.getElem?_modify]
    by_cases e : a.block = b
    · subst e; rw [if_pos rfl, h]; exact ⟨_, _, rfl⟩
    · rw [if_neg e]; exact ⟨_, _, h⟩
theorem Cast.setMap (w : World) {k : Nat} {e e' : Array MapEntry} {n n' : Nat} (hk : w.heap[k]? = some (.map e n)) (hx : (n = e.size ∧ ∀ (j : Nat) (x : MapEntry), e[j]? = some x → x.born = j) → n' = e'.size ∧ ∀ (j : Nat) (x : MapEntry), e'[j]? = some x → x.born = j) : Cast w { w with heap := w.heap.setIfInBounds k (.map e' n') } := by
  refine ⟨fun b c t fz h => ⟨c, fz, ?_⟩, fun b h => ?_, fun b h => ?_⟩
  rotate_left
  rotate_left
  · obtain ⟨f, m, h1, h2⟩ := h
    by_cases hne : k = b
    · subst hne
      rw [hk] at h1
      cases h1
      have hlt : k < w.heap.size := (Array.getElem?_eq_some_iff.1 hk).1
      exact ⟨e', n', by simp only [Array.getElem?_setIfInBounds_self, if_pos hlt], hx h2⟩
    · exact ⟨f, m, by simp only [Array.getElem?_setIfInBounds]; rw [if_neg hne]; exact h1, h2⟩
  · have hne : k ≠ b := fun e => by subst e; rw [hk] at h; cases h
    simp only [Array.getElem?_setIfInBounds]
    rw [if_neg hne]; exact h
  have hne : k ≠ b := fun e => by subst e; rw [hk] at h; cases h
  simp only [Array.getElem?_setIfInBounds]
  rw [if_neg hne]; exact h
def TyR (φ : Map) (h : AW) (w : World) : Prop := (∀ (i : Nat) (t : TypeId), h.tys.get? i = some t → i < h.next ∧ ∀ (b σ κ : Nat), φ i = some (b, σ, κ) → ∃ (c : Array Value) (fz : Nat × Nat), w.heap[b]? = some (Obj.cells c t fz)) ∧
  (∀ (i : Nat), h.its.get? i = some 1 → i < h.next ∧ ∀ (b σ κ : Nat), φ i = some (b, σ, κ) → w.heap[b]? = some (Obj.mapIter none 0 #[] 0)) ∧
  ∀ (i : Nat), h.its.get? i = some 2 → i < h.next ∧ ∀ (b σ κ : Nat), φ i = some (b, σ, κ) → ExactM w b
theorem TyR.keep {φ ψ : Map} {h h' : AW} {w w' : World} (T : TyR φ h w) (hc : Cast w w') (ht : h'.tys = h.tys) (hn : h.next ≤ h'.next) (hp : ∀ i, i < h.next → ψ i = φ i) (hs : h'.its = h.its := by rfl) : TyR ψ h' w' := by
  refine ⟨fun i t h1 => ?_, fun i h1 => ?_, fun i h1 => ?_⟩
  · rw [ht] at h1
    obtain ⟨h2, h3⟩ := T.1 i t h1
    refine ⟨by omega, fun b σ κ h4 => ?_⟩
    rw [hp i h2] at h4
    obtain ⟨c, fz, h5⟩ := h3 b σ κ h4
    exact hc.1 b c t fz h5
  · rw [hs] at h1
    obtain ⟨h2, h3⟩ := T.2.1 i h1
    refine ⟨by omega, fun b σ κ h4 => ?_⟩
    rw [hp i h2] at h4
    exact hc.2.1 b (h3 b σ κ h4)
  · rw [hs] at h1
    obtain ⟨h2, h3⟩ := T.2.2 i h1
    refine ⟨by omega, fun b σ κ h4 => ?_⟩
    rw [hp i h2] at h4
    exact hc.2.2 b (h3 b σ κ h4)
theorem TyR.drop {φ : Map} {h h' : AW} {w w' : World} (T : TyR φ h w) (hc : ∀ (b : Nat) (c : Array Value) (t : TypeId) (fz : Nat × Nat), w.heap[b]? = some (Obj.cells c t fz) → ∃ (c' : Array Value) (fz' : Nat × Nat), w'.heap[b]? = some (Obj.cells c' t fz')) (ht : h'.tys = h.tys) (hn : h.next ≤ h'.next) (hs : h'.its = .nil) : TyR φ h' w' := by
  refine ⟨fun i t h1 => ?_, fun i h1 => ?_, fun i h1 => ?_⟩
  · rw [ht] at h1
    obtain ⟨h2, h3⟩ := T.1 i t h1
    refine ⟨by omega, fun b σ κ h4 => ?_⟩
    obtain ⟨c, fz, h5⟩ := h3 b σ κ h4
    exact hc b c t fz h5
  · rw [hs] at h1; cases h1
  · rw [hs] at h1; cases h1
theorem TyR.same {φ : Map} {h h' : AW} {w w' : World} (T : TyR φ h w) (hc : Cast w w') (ht : h'.tys = h.tys) (hn : h.next ≤ h'.next) (hs : h'.its = h.its := by rfl) : TyR φ h' w' := T.keep hc ht hn (fun _ _ => rfl) hs
theorem TyR.add {φ : Map} {h h' : AW} {w w' : World} {x : Nat × Nat × Nat} (T : TyR φ h w) (hc : Cast w w') (ht : h'.tys = h.tys) (hn : h.next ≤ h'.next) (hs : h'.its = h.its := by rfl) : TyR (φ.add h.next x) h' w' := T.keep hc ht hn (fun i hi => Map.add_ne _ _ (by omega)) hs
theorem TyR.nil {φ : Map} {h : AW} {w : World} (e : h.tys = .nil) (e2 : h.its = .nil := by rfl) : TyR φ h w := ⟨(fun i t h1 => by rw [e] at h1; cases h1), (fun i h1 => by rw [e2] at h1; cases h1), (fun i h1 => by rw [e2] at h1; cases h1)⟩
structure HRel (B0 : Zn) (w0 : World) (φ : Map) (h : AW) (w : World) : Prop where
  base : ∀ k, B0.Z k → k < w0.heap.size
  below : BelowZ B0 w0 w
  dom : ∀ i x, φ i = some x → i < h.next
  lto : ∀ i o x, h.objs.get? i = some o → φ i = some x → x.1 < w.heap.size
  obj : ∀ i o, h.objs.get? i = some o → ∃ b σ κ, φ i = some (b, σ, κ) ∧ ORel φ h.fams B0 w b σ κ o
  fam : ∀ i f g lo hi sz cs, h.objs.get? i = some (.row f g lo hi sz cs) → f < h.next ∧ ∃ fm, h.fams.get? f = some fm ∧ g ≤ fm.gen
  sep : ∀ i j oi oj b σ κ σ' κ', i ≠ j → h.objs.get? i = some oi → h.objs.get? j = some oj → live h.fams oi → live h.fams oj →
    φ i = some (b, σ, κ) → φ j = some (b, σ', κ') → kin oi oj ∧ σ = σ'
  ty : TyR φ h w
theorem ORel.mono {φ ψ : Map} (hm : φ.le ψ) {fams : T Fam} {B0 : Zn} {w : World} {b σ κ : Nat} {o : AObj} (h : ORel φ fams B0 w b σ κ o) : ORel ψ fams B0 w b σ κ o := by
  cases o with
  | var cs n ro =>
    obtain ⟨h1, h2, h3, h4, h5⟩ := h
    exact ⟨h1, h2, fun off v a c => let ⟨v', d, e⟩ := h3 off v a c; ⟨v', d, e.mono hm⟩, h4, h5⟩
  | row f g lo hi sz cs =>
    intro fm hf hg
    obtain ⟨h1, h2, h3, h4, h5, h6⟩ := h fm hf hg
    exact ⟨h1, h2, h3, fun c v a d e => let ⟨v', x, y⟩ := h4 c v a d e; ⟨v', x, y.mono hm⟩, h5, h6⟩
  | map es =>
    obtain ⟨h1, h2, h3, ents, clock, h4, h5, h6⟩ := h
    exact ⟨h1, h2, h3, ents, clock, h4, L2.mono (fun p e x => ⟨x.1.mono hm, x.2.mono hm⟩) h5, h6⟩
theorem ORel.same {φ : Map} {fams : T Fam} {B0 : Zn} {w w' : World} {b σ κ : Nat} {o : AObj} (h : ORel φ fams B0 w b σ κ o) (hb : w'.heap[b]? = w.heap[b]?) : ORel φ fams B0 w' b σ κ o := by
  have hc : ∀ k, w'.cell? ⟨b, k, none⟩ = w.cell? ⟨b, k, none⟩ := fun k => by simp [World.cell?, hb]
  have hf : ∀ k, w'.frozen? ⟨b, k, none⟩ = w.frozen? ⟨b, k, none⟩ := fun k => by simp [World.frozen?, hb]
  have hd : ∀ k, hard w' b k = hard w b k := fun k => by simp [hard, hb]
  cases o with
  | var cs n ro => simpa only [ORel, hc, hd] using h
  | row f g lo hi sz cs => simpa only [ORel, hc, hf] using h
  | map es => simpa only [ORel, hb] using h
theorem HRel.inn {B0 : Zn} {w0 : World} {φ : Map} {h : AW} {w : World} (H : HRel B0 w0 φ h w) : ∀ k, B0.Z k → k < w.heap.size := fun k hk => Nat.lt_of_lt_of_le (H.base k hk) H.below.size
theorem HRel.newZ {B0 : Zn} {w0 : World} {φ : Map} {h : AW} {w : World} (H : HRel B0 w0 φ h w) : ¬ B0.Z w.heap.size := fun hk => Nat.lt_irrefl _ (H.inn _ hk)
theorem HRel.lt {B0 : Zn} {w0 : World} {φ : Map} {h : AW} {w : World} (H : HRel B0 w0 φ h w) {i : Nat} {o : AObj} (ho : h.objs.get? i = some o) {b σ κ : Nat} (hi : φ i = some (b, σ, κ)) : b < w.heap.size := H.lto i o _ ho hi
theorem HRel.free {B0 : Zn} {w0 : World} {φ : Map} {h : AW} {w : World} (H : HRel B0 w0 φ h w) {i : Nat} (hi : h.next ≤ i) : φ i = none := by
  cases hx : φ i with
  | none => rfl
  | some x => have := H.dom i x hx; omega
theorem HRel.objFree {B0 : Zn} {w0 : World} {φ : Map} {h : AW} {w : World} (H : HRel B0 w0 φ h w) {i : Nat} (hi : h.next ≤ i) : h.objs.get? i = none := by
  cases hx : h.objs.get? i with
  | none => rfl
  | some o => obtain ⟨b, σ, κ, hp, _⟩ := H.obj i o hx; rw [H.free hi] at hp; cases hp
theorem BelowZ.growTo {B : Zn} {w0 w w' : World} (h : BelowZ B w0 w) (ho : w'.os = w.os) (ht : w'.tape = w.tape) (hu : w'.output = w.output) (hs : w.heap.size ≤ w'.heap.size) (hb : ∀ k, B.Z k → w'.heap[k]? = w.heap[k]?) : BelowZ B w0 w' :=
  h.trans ⟨ho, ht, hu, hs, hb⟩
theorem HRel.drew {B0 : Zn} {w0 : World} {φ : Map} {h : AW} {w : World} (H : HRel B0 w0 φ h w) : HRel B0 w0 φ h w.drew :=
  ⟨H.base, H.below.drew, H.dom, H.lto, fun i o ho => let ⟨b, σ, κ, hp, hr⟩ := H.obj i o ho; ⟨b, σ, κ, hp, hr.same rfl⟩, H.fam, H.sep, H.ty.same (Cast.refl _) rfl (Nat.le_refl _)⟩
theorem beq_true {a b : Nat} (h : Nat.beq a b = true) : a = b := Nat.eq_of_beq_eq_true h
theorem ble_true {a b : Nat} (h : Nat.ble a b = true) : a ≤ b := Nat.le_of_ble_eq_true h
theorem HRel.rd {B0 : Zn} {w0 : World} {φ : Map} {h : AW} {w : World} (H : HRel B0 w0 φ h w) {i off : Nat} {v : Value} (hr : h.rd i off = some v) {b σ κ : Nat} (hp : φ i = some (b, σ, κ)) :
    σ ≤ off ∧ ∃ v', w.cell? ⟨b, off - σ, none⟩ = some v' ∧ VRel φ v v' := by
  unfold AW.rd at hr
  split at hr
  · rename_i cs n ro ho
    obtain ⟨b', σ', κ', hp', hR⟩ := H.obj i _ ho
    rw [hp] at hp'; cases hp'
    obtain ⟨rfl, rfl, h3, _⟩ := hR
    split at hr
    · rename_i hn
      exact ⟨Nat.zero_le _, h3 off v (ble_true hn) hr⟩
    · cases hr
  · rename_i f g lo hi sz cs ho
    obtain ⟨b', σ', κ', hp', hR⟩ := H.obj i _ ho
    rw [hp] at hp'; cases hp'
    split at hr
    · rename_i fm hf
      split at hr
      · rename_i hc
        simp only [Bool.and_eq_true] at hc
        obtain ⟨⟨c1, c2⟩, c3⟩ := hc
        obtain ⟨_, h2, _, h4, _⟩ := hR fm hf (beq_true c1)
        exact ⟨Nat.le_trans h2 (ble_true c2), h4 off v (ble_true c2) (ble_true c3) hr⟩
      · cases hr
    · cases hr
  · cases hr
theorem HRel.rdN {B0 : Zn} {w0 : World} {φ : Map} {h : AW} {w : World} (H : HRel B0 w0 φ h w) {i b σ κ : Nat} (hp : φ i = some (b, σ, κ)) :
    ∀ {n off : Nat} {l : List Value}, h.rdN i off n = some l → l.length = n ∧ (n ≠ 0 → σ ≤ off) ∧ ∃ l', LRel φ l l' ∧ ∀ j v', l'[j]? = some v' → w.cell? ⟨b, off - σ + j, none⟩ = some v' := by
  intro n
  induction n with
  | zero => intro off l hr; simp only [AW.rdN, Option.some.injEq] at hr; subst hr; exact ⟨rfl, fun h => absurd rfl h, [], L2.nil, fun j v' h => by simp at h⟩
  | succ n ih =>
    intro off l hr
    simp only [AW.rdN] at hr
    split at hr
    · rename_i v hv
      split at hr
      · rename_i t ht
        simp only [Option.some.injEq] at hr; subst hr
        obtain ⟨hs, v', hc, hvr⟩ := H.rd hv hp
        obtain ⟨hl, _, l', hlr, hcs⟩ := ih ht
        refine ⟨by simp [hl], fun _ => hs, v' :: l', L2.cons hvr hlr, fun j u hu => ?_⟩
        cases j with
        | zero => simp at hu; subst hu; exact hc
        | succ j => simp at hu; have := hcs j u hu; rw [show off - σ + (j + 1) = off + 1 - σ + j from by omega]; exact this
      · cases hr
    · cases hr
theorem heap_setCell_ne (w : World) (a : Addr) (v : Value) (k : Nat) (h : k ≠ a.block) : (w.setCell a v).heap[k]? = w.heap[k]? := heap_setCell_other w a k v h
theorem HRel.wr {B0 : Zn} {w0 : World} {φ : Map} {h h' : AW} {w : World} (H : HRel B0 w0 φ h w) {i off : Nat} {v v' : Value} (hw : h.wr i off v = some h') (hv : VRel φ v v') {b σ κ : Nat} (hp : φ i = some (b, σ, κ)) :
    σ ≤ off ∧ (∃ u, w.cell? ⟨b, off - σ, none⟩ = some u) ∧ w.frozen? ⟨b, off - σ, none⟩ = false ∧ v'.oneCell' = true ∧ HRel B0 w0 φ h' (w.setCell ⟨b, off - σ, none⟩ v') := by
  unfold AW.wr at hw
  split at hw
  · cases hw
  rename_i h1
  have hone := hv.one h1
  split at hw
  · rename_i cs n ho
    split at hw
    · rename_i hn
      simp only [Option.some.injEq] at hw
      obtain ⟨b', σ', κ', hp', hR⟩ := H.obj i _ ho
      rw [hp] at hp'; cases hp'
      obtain ⟨rfl, rfl, h3, h4, h5⟩ := hR
      obtain ⟨hB, hcell⟩ := h4 rfl
      have hlt := ble_true hn
      obtain ⟨⟨u, hu⟩, hfr⟩ := hcell off hlt
      refine ⟨Nat.zero_le _, ⟨u, hu⟩, hard_frozen hfr, hone, ?_⟩
      subst hw
      simp only [Nat.sub_zero]
      refine ⟨H.base, H.below.setCell hB _, H.dom, fun j o x hj hx => ?_, ?_, ?_, ?_, H.ty.same (Cast.setCell _ _ _) rfl (Nat.le_refl _)⟩
      · simp only [T.get?_set] at hj
        rw [show (w.setCell ⟨b, off, none⟩ v').heap.size = w.heap.size from by simp [World.setCell]]
        split at hj
        · rename_i e; subst e; exact H.lto _ _ _ ho hx
        · exact H.lto _ _ _ hj hx
      · intro j o hj
        simp only [T.get?_set] at hj
        by_cases hji : j = i
        · subst hji
          simp only [if_true, Option.some.injEq] at hj
          subst hj
          refine ⟨b, 0, 0, hp, rfl, rfl, ?_, ?_, fun e => by cases e⟩
          · intro k x hk hx
            simp only [T.get?_set] at hx
            by_cases hko : k = off
            · subst hko
              simp only [if_true, Option.some.injEq] at hx
              subst hx
              exact ⟨v', World.cell?_setCell_same _ _ _ hu, hv⟩
            · simp only [if_neg hko] at hx
              obtain ⟨y, hy, hr⟩ := h3 k x hk hx
              refine ⟨y, ?_, hr⟩
              rw [World.cell?_setCell_other]
              · exact hy
              · intro e; injection e; omega
          · intro _
            refine ⟨hB, fun k hk => ?_⟩
            obtain ⟨⟨y, hy⟩, hf⟩ := hcell k hk
            refine ⟨?_, by rw [hard_setCell]; exact hf⟩
            by_cases hko : k = off
            · subst hko; exact ⟨v', World.cell?_setCell_same _ _ _ hu⟩
            · exact ⟨y, (World.cell?_setCell_other _ _ _ _ (by intro e; injection e; omega)).trans hy⟩
        · simp only [if_neg hji] at hj
          obtain ⟨b2, σ2, κ2, hp2, hR2⟩ := H.obj j o hj
          refine ⟨b2, σ2, κ2, hp2, ?_⟩
          by_cases hlive : live h.fams o
          · by_cases hbb : b2 = b
            · subst hbb
              have := (H.sep j i o _ _ _ _ _ _ hji hj ho hlive rfl hp2 hp).1
              cases o <;> exact this.elim
            · exact hR2.same (heap_setCell_ne _ _ _ _ hbb)
          · cases o with
            | var cs2 n2 ro2 =>
              have hro : ro2 = true := by cases ro2 <;> simp_all [live]
              obtain ⟨e1, e2, e3, e4, e5⟩ := hR2
              rcases e5 hro with hlt2 | hn0
              · exact ORel.same (o := .var cs2 n2 ro2) ⟨e1, e2, e3, e4, e5⟩ (heap_setCell_ne _ _ _ _ (fun e => hB (by have e : b2 = b := e; rw [← e]; exact B0.sub _ hlt2)))
              · refine ⟨e1, e2, fun k x hk => by omega, fun e => (by rw [hro] at e; cases e), e5⟩
            | row f g lo hi sz cs2 => intro fm hf hg; exact absurd ⟨fm, hf, hg⟩ hlive
            | map es => exact absurd trivial hlive
      · intro j f g lo hi sz cs2 hj
        simp only [T.get?_set] at hj
        split at hj
        · cases hj
        · exact H.fam j f g lo hi sz cs2 hj
      · intro j k oj ok b2 σ2 κ2 σ3 κ3 hjk hj hk lj lk pj pk
        simp only [T.get?_set] at hj hk
        by_cases hji : j = i
        · subst hji
          simp only [if_true, Option.some.injEq] at hj
          rw [if_neg (Ne.symm hjk)] at hk
          have := H.sep j k _ ok b2 σ2 κ2 σ3 κ3 hjk ho hk rfl lk pj pk
          subst hj
          exact ⟨by have := this.1; cases ok <;> exact this.elim, this.2⟩
        · rw [if_neg hji] at hj
          by_cases hki : k = i
          · subst hki
            simp only [if_true, Option.some.injEq] at hk
            have := H.sep j k oj _ b2 σ2 κ2 σ3 κ3 hjk hj ho lj rfl pj pk
            subst hk
            exact ⟨by have := this.1; cases oj <;> exact this.elim, this.2⟩
          · rw [if_neg hki] at hk
            exact H.sep j k oj ok b2 σ2 κ2 σ3 κ3 hjk hj hk lj lk pj pk
    · cases hw
  · rename_i f g lo hi sz cs ho
    split at hw
    · rename_i fm hf
      split at hw
      · rename_i hc
        simp only [Bool.and_eq_true] at hc
        obtain ⟨⟨⟨c1, c2⟩, c3⟩, c4⟩ := hc
        replace c1 := beq_true c1
        replace c2 := ble_true c2
        replace c3 := ble_true c3
        replace c4 := ble_true c4
        simp only [Option.some.injEq] at hw
        obtain ⟨b', σ', κ', hp', hR⟩ := H.obj i _ ho
        rw [hp] at hp'; cases hp'
        obtain ⟨hB, hs, hext, h4, h5, h6⟩ := hR fm hf c1
        have hklt : off < hi + κ * sz := by have : 0 ≤ κ * sz := Nat.zero_le _; omega
        obtain ⟨u, hu⟩ := h5 off c2 hklt
        refine ⟨by omega, ⟨u, hu⟩, h6 off c4 c2 hklt, hone, ?_⟩
        subst hw
        have hil : live h.fams (.row f g lo hi sz cs) := ⟨fm, hf, c1⟩
        have other : ∀ j o, j ≠ i → h.objs.get? j = some o → live (h.fams.set f { fm with gen := g + 1 }) o → live h.fams o ∧ ¬ (kin o (.row f g lo hi sz cs)) := by
          intro j o hji hj hl
          cases o with
          | var a n ro => exact ⟨hl, fun k => k⟩
          | map es => exact ⟨trivial, fun k => k⟩
          | row f2 g2 lo2 hi2 sz2 cs2 =>
            obtain ⟨fm2, hf2, hg2⟩ := hl
            simp only [T.get?_set] at hf2
            by_cases hff : f2 = f
            · subst hff
              simp only [if_true, Option.some.injEq] at hf2
              subst hf2
              obtain ⟨_, fm3, hf3, hg3⟩ := H.fam j _ _ _ _ _ _ hj
              rw [hf] at hf3; cases hf3
              simp only at hg2
              omega
            · rw [if_neg hff] at hf2
              exact ⟨⟨fm2, hf2, hg2⟩, fun k => hff k⟩
        refine ⟨H.base, H.below.setCell hB _, H.dom, fun j o x hj hx => ?_, ?_, ?_, ?_, H.ty.same (Cast.setCell _ _ _) rfl (Nat.le_refl _)⟩
        · simp only [T.get?_set] at hj
          rw [show (w.setCell ⟨b, off - σ, none⟩ v').heap.size = w.heap.size from by simp [World.setCell]]
          split at hj
          · rename_i e; subst e; exact H.lto _ _ _ ho hx
          · exact H.lto _ _ _ hj hx
        · intro j o hj
          simp only [T.get?_set] at hj
          by_cases hji : j = i
          · subst hji
            simp only [if_true, Option.some.injEq] at hj
            subst hj
            refine ⟨b, σ, κ, hp, ?_⟩
            intro fm2 hf2 hg2
            simp only [T.get?_set, if_true, Option.some.injEq] at hf2
            subst hf2
            refine ⟨hB, hs, hext, ?_, ?_, ?_⟩
            · intro c x a1 a2 hx
              simp only [T.get?_set] at hx
              by_cases hco : c = off
              · subst hco
                simp only [if_true, Option.some.injEq] at hx
                subst hx
                exact ⟨v', World.cell?_setCell_same _ _ _ hu, hv⟩
              · simp only [if_neg hco] at hx
                obtain ⟨y, hy, hr⟩ := h4 c x a1 a2 hx
                refine ⟨y, ?_, hr⟩
                rw [World.cell?_setCell_other]
                · exact hy
                · intro e; injection e; omega
            · intro c a1 a2
              obtain ⟨y, hy⟩ := h5 c a1 a2
              by_cases hco : c = off
              · subst hco; exact ⟨v', World.cell?_setCell_same _ _ _ hu⟩
              · exact ⟨y, (World.cell?_setCell_other _ _ _ _ (by intro e; injection e; omega)).trans hy⟩
            · intro c a0 a1 a2
              rw [World.frozen?_setCell]
              exact h6 c a0 a1 a2
          · simp only [if_neg hji] at hj
            obtain ⟨b2, σ2, κ2, hp2, hR2⟩ := H.obj j o hj
            refine ⟨b2, σ2, κ2, hp2, ?_⟩
            by_cases hlive : live (h.fams.set f { fm with gen := g + 1 }) o
            · obtain ⟨ol, onk⟩ := other j o hji hj hlive
              have hbb : b2 ≠ b := by
                rintro rfl
                exact onk (H.sep j i o _ _ _ _ _ _ hji hj ho ol hil hp2 hp).1
              have hR3 := hR2.same (heap_setCell_ne w ⟨b, off - σ, none⟩ v' b2 hbb)
              cases o with
              | var a n ro => exact hR3
              | map es => exact hR3
              | row f2 g2 lo2 hi2 sz2 cs2 =>
                have hff : f2 ≠ f := fun e => onk e
                intro fm2 hf2
                simp only [T.get?_set, if_neg hff] at hf2
                exact hR3 fm2 hf2
            · cases o with
              | var cs2 n2 ro2 =>
                have hro : ro2 = true := by cases ro2 <;> simp_all [live]
                obtain ⟨e1, e2, e3, e4, e5⟩ := hR2
                rcases e5 hro with hlt2 | hn0
                · exact ORel.same (o := .var cs2 n2 ro2) ⟨e1, e2, e3, e4, e5⟩ (heap_setCell_ne _ _ _ _ (fun e => hB (by have e : b2 = b := e; rw [← e]; exact B0.sub _ hlt2)))
                · refine ⟨e1, e2, fun k x hk => by omega, fun e => (by rw [hro] at e; cases e), e5⟩
              | row f2 g2 lo2 hi2 sz2 cs2 => intro fm2 hf2 hg2; exact absurd ⟨fm2, hf2, hg2⟩ hlive
              | map es => exact absurd trivial hlive
        · intro j f2 g2 lo2 hi2 sz2 cs2 hj
          simp only [T.get?_set] at hj ⊢
          split at hj
          · simp only [Option.some.injEq] at hj
            cases hj
            exact ⟨(H.fam i _ _ _ _ _ _ ho).1, _, by rw [if_pos rfl], Nat.le_refl _⟩
          · obtain ⟨k1, fm2, k2, k3⟩ := H.fam j _ _ _ _ _ _ hj
            refine ⟨k1, ?_⟩
            by_cases hff : f2 = f
            · subst hff
              rw [hf] at k2; cases k2
              exact ⟨_, by rw [if_pos rfl], by show g2 ≤ g + 1; omega⟩
            · exact ⟨fm2, by rw [if_neg hff]; exact k2, k3⟩
        · intro j k oj ok b2 σ2 κ2 σ3 κ3 hjk hj hk lj lk pj pk
          simp only [T.get?_set] at hj hk
          by_cases hji : j = i
          · subst hji
            simp only [if_true, Option.some.injEq] at hj
            rw [if_neg (Ne.symm hjk)] at hk
            obtain ⟨ol, onk⟩ := other k ok (Ne.symm hjk) hk lk
            have := H.sep k j ok _ b2 _ _ _ _ (Ne.symm hjk) hk ho ol hil pk pj
            exact absurd this.1 onk
          · rw [if_neg hji] at hj
            obtain ⟨ol, onk⟩ := other j oj hji hj lj
            by_cases hki : k = i
            · subst hki
              have := H.sep j k oj _ b2 _ _ _ _ hjk hj ho ol hil pj pk
              exact absurd this.1 onk
            · rw [if_neg hki] at hk
              obtain ⟨ol2, onk2⟩ := other k ok hki hk lk
              exact H.sep j k oj ok b2 σ2 κ2 σ3 κ3 hjk hj hk ol ol2 pj pk
      · cases hw
    · cases hw
  · cases hw
end Go.Abs
end
