/- A deterministic heap for the model, proved sound, and walks of the program over it: part 4. No condition. -/
import Derived.Test.YtamoepfiodgbbaaGreatDoorAb2
import Derived.Test.YtamoepfiodgbbaaGreatDoorAb1
import Derived.Test.YtamoepfiodgbbaaGreatDoorAb3
set_option linter.unusedVariables false
set_option linter.unusedSimpArgs false
set_option linter.unusedSectionVars false
section
/- Walks, first part: what must hold for an operation to come to what is wanted. -/
namespace Go.Abs

/-! Words that a walk is told in. -/
def oB {α : Type} (x : Option α) (f : α → Prop) : Prop := match x with | some a => f a | none => False
def oP (x : Option (Value × AW)) (f : Value → AW → Prop) : Prop := match x with | some (v, h) => f v h | none => False
def bC (b : Bool) (p q : Prop) : Prop := match b with | true => p | false => q
def vInt (k : IntKind) (v : Value) (f : Int → Prop) : Prop := match v with | .int k' n => bC (decide (k' = k)) (f n) False | _ => False
def vBool (v : Value) (f : Bool → Prop) : Prop := match v with | .bool b => f b | _ => False
def vStr (v : Value) (f : ByteArray → Prop) : Prop := match v with | .string s => f s | _ => False
def vPtr (v : Value) (f : Option Addr → Prop) : Prop := match v with | .pointer p => f p | _ => False
def vSl (v : Value) (f : Option Addr → Nat → Nat → Prop) : Prop := match v with | .slice a l c => f a l c | _ => False
def vMap (v : Value) (f : Option Nat → Prop) : Prop := match v with | .map r => f r | _ => False
def vFun (v : Value) (f : FuncId → List Value → List Value → Prop) : Prop := match v with | .func (.func i) a b => f i a.toList b.toList | _ => False
def vIfc (v : Value) (p : Prop) (f : TypeId → Value → Prop) : Prop := match v with | .nilIface => p | .iface t x => f t x | _ => False
def vAgg (v : Value) (f : List Value → Prop) : Prop := match v with | .agg cs => f cs.toList | _ => False
def vTup (v : Value) (f : List Value → Prop) : Prop := match v with | .tuple cs => f cs.toList | _ => False
def lC (l : List Value) (f : Value → List Value → Prop) : Prop := match l with | v :: l => f v l | [] => False
def lN (l : List Value) (p : Prop) : Prop := match l with | [] => p | _ => False
def aP (p : Option Addr) (f : Nat → Nat → Prop) : Prop := match p with | some ⟨i, off, none⟩ => f i off | _ => False
def nilI : Value → Option Bool
  | .nilIface => some true
  | .iface _ _ => some false
  | _ => none
def nilF : Value → Option Bool
  | .nilFunc => some true
  | .func _ _ _ => some false
  | _ => none
def natIdx (z : Int) (n : Nat) : Option Nat :=
  match z with
  | .ofNat i => match Nat.ble (i + 1) n with | true => some i | false => none
  | _ => none
def natBnd (z : Int) (n : Nat) : Option Nat :=
  match z with
  | .ofNat i => match Nat.ble i n with | true => some i | false => none
  | _ => none
def shO (a : Option Addr) (n : Nat) : Option (Option Addr) :=
  match a with
  | none => some none
  | some ⟨b, off, none⟩ => some (some ⟨b, off + n, none⟩)
  | _ => none
def bAt (s : ByteArray) (i : Nat) : Option Int := match s.data[i]? with | some b => some (b.toNat : Int) | none => none
def bSub (s : ByteArray) (lo hi : Nat) : ByteArray := ⟨⟨(s.data.toList.drop lo).take (hi - lo)⟩⟩
def bEq (x y : ByteArray) : Bool := x.data.toList == y.data.toList
def AW.addVar (h : AW) (cells : List Value) : AW := { h with next := h.next + 1, objs := h.objs.set h.next (.var (T.ofList cells) cells.length false) }
def AW.addMap (h : AW) : AW := { h with next := h.next + 1, objs := h.objs.set h.next (.map []) }
def AW.mapL (h : AW) (r : Option Nat) : Option (List (Value × Value)) :=
  match r with
  | none => some []
  | some r => match h.objs.get? r with
    | some (.map es) => some es
    | _ => none
def AW.bytes (h : AW) (a : Option Addr) (len : Nat) : Option ByteArray :=
  match a with
  | none => some .empty
  | some ⟨i, off, none⟩ => match h.rdN i off len with
    | some l => match bytesV l with
      | some bs => some ⟨⟨bs⟩⟩
      | none => none
    | none => none
  | _ => none

theorem oB_ok {α : Type} {x : Option α} {f : α → Prop} (h : oB x f) : ∃ a, x = some a ∧ f a := by
  unfold oB at h; split at h
  · exact ⟨_, rfl, h⟩
  · exact h.elim
theorem oP_ok {x : Option (Value × AW)} {f : Value → AW → Prop} (h : oP x f) : ∃ v h', x = some (v, h') ∧ f v h' := by
  unfold oP at h; split at h
  · exact ⟨_, _, rfl, h⟩
  · exact h.elim
theorem bC_ok {b : Bool} {p q : Prop} (h : bC b p q) : (b = true ∧ p) ∨ (b = false ∧ q) := by
  unfold bC at h; cases b
  · exact .inr ⟨rfl, h⟩
  · exact .inl ⟨rfl, h⟩
theorem vInt_ok {k : IntKind} {v : Value} {f : Int → Prop} (h : vInt k v f) : ∃ n, v = .int k n ∧ f n := by
  unfold vInt at h; split at h
  · rcases bC_ok h with ⟨e, x⟩ | ⟨_, x⟩
    · have := of_decide_eq_true e; subst this; exact ⟨_, rfl, x⟩
    · exact x.elim
  · exact h.elim
theorem vBool_ok {v : Value} {f : Bool → Prop} (h : vBool v f) : ∃ b, v = .bool b ∧ f b := by
  unfold vBool at h; split at h
  · exact ⟨_, rfl, h⟩
  · exact h.elim
theorem vStr_ok {v : Value} {f : ByteArray → Prop} (h : vStr v f) : ∃ b, v = .string b ∧ f b := by
  unfold vStr at h; split at h
  · exact ⟨_, rfl, h⟩
  · exact h.elim
theorem vPtr_ok {v : Value} {f : Option Addr → Prop} (h : vPtr v f) : ∃ b, v = .pointer b ∧ f b := by
  unfold vPtr at h; split at h
  · exact ⟨_, rfl, h⟩
  · exact h.elim
theorem vSl_ok {v : Value} {f : Option Addr → Nat → Nat → Prop} (h : vSl v f) : ∃ a l c, v = .slice a l c ∧ f a l c := by
  unfold vSl at h; split at h
  · exact ⟨_, _, _, rfl, h⟩
  · exact h.elim
theorem vMap_ok {v : Value} {f : Option Nat → Prop} (h : vMap v f) : ∃ b, v = .map b ∧ f b := by
  unfold vMap at h; split at h
  · exact ⟨_, rfl, h⟩
  · exact h.elim
theorem vFun_ok {v : Value} {f : FuncId → List Value → List Value → Prop} (h : vFun v f) : ∃ i a b, v = .func (.func i) a b ∧ f i a.toList b.toList := by
  unfold vFun at h; split at h
  · exact ⟨_, _, _, rfl, h⟩
  · exact h.elim
theorem vIfc_ok {v : Value} {p : Prop} {f : TypeId → Value → Prop} (h : vIfc v p f) : (v = .nilIface ∧ p) ∨ ∃ t x, v = .iface t x ∧ f t x := by
  unfold vIfc at h; split at h
  · exact .inl ⟨rfl, h⟩
  · exact .inr ⟨_, _, rfl, h⟩
  · exact h.elim
theorem vAgg_ok {v : Value} {f : List Value → Prop} (h : vAgg v f) : ∃ cs : Array Value, v = .agg cs ∧ f cs.toList := by
  unfold vAgg at h; split at h
  · exact ⟨_, rfl, h⟩
  · exact h.elim
theorem vTup_ok {v : Value} {f : List Value → Prop} (h : vTup v f) : ∃ cs : Array Value, v = .tuple cs ∧ f cs.toList := by
  unfold vTup at h; split at h
  · exact ⟨_, rfl, h⟩
  · exact h.elim
theorem lC_ok {l : List Value} {f : Value → List Value → Prop} (h : lC l f) : ∃ v r, l = v :: r ∧ f v r := by
  unfold lC at h; split at h
  · exact ⟨_, _, rfl, h⟩
  · exact h.elim
theorem lN_ok {l : List Value} {p : Prop} (h : lN l p) : l = [] ∧ p := by
  unfold lN at h; split at h
  · exact ⟨rfl, h⟩
  · exact h.elim
theorem aP_ok {p : Option Addr} {f : Nat → Nat → Prop} (h : aP p f) : ∃ i off, p = some ⟨i, off, none⟩ ∧ f i off := by
  unfold aP at h; split at h
  · exact ⟨_, _, rfl, h⟩
  · exact h.elim

section
variable (P : Program)

/-! A value of a type, taken apart as far as the walk wants it. -/
def castD (d : TypeDesc) (v : Value) (K : Value → Prop) : Prop :=
  match d with
  | .int k => vInt k v fun n => K (.int k n)
  | .bool => vBool v fun b => K (.bool b)
  | .string => vStr v fun s => K (.string s)
  | .pointer _ => vPtr v fun p => K (.pointer p)
  | .unsafePointer => vPtr v fun p => K (.pointer p)
  | .slice _ => vSl v fun a l c => K (.slice a l c)
  | .map _ _ => vMap v fun r => K (.map r)
  | .interface _ => vIfc v (K .nilIface) fun t x => K (.iface t x)
  | _ => K v
def descsL (f : TypeId → Option (List TypeDesc)) : List TypeId → Option (List TypeDesc)
  | [] => some []
  | t :: l => match f t, descsL f l with | some a, some b => some (a ++ b) | _, _ => none
def descs : Nat → TypeId → Option (List TypeDesc)
  | 0, _ => none
  | n + 1, t => match tiOf P t with
    | some ti => match ti.und with
      | .struct fs => descsL (descs n) (fs.toList.map Field.type)
      | .array len e => descsL (descs n) (List.replicate len e)
      | d => some [d]
    | none => none
def castL : List TypeDesc → List Value → (List Value → Prop) → Prop
  | [], l, K => lN l (K [])
  | d :: ds, l, K => lC l fun v l => castD d v fun v => castL ds l fun r => K (v :: r)
def castT (t : TypeId) (v : Value) (K : Value → Prop) : Prop :=
  match tiOf P t with
  | some ti => match ti.agg with
    | true => match descs P 8 t with
      | some ds => vAgg v fun l => castL ds l fun l => K (.agg ⟨l⟩)
      | none => False
    | false => castD ti.und v K
  | none => False
def castR (ts : List TypeId) (v : Value) (K : Value → Prop) : Prop :=
  match ts with
  | [] => K v
  | [t] => castT P t v K
  | ts => vTup v fun l => go ts l fun l => K (.tuple ⟨l⟩)
  where
  go : List TypeId → List Value → (List Value → Prop) → Prop
    | [], l, K => lN l (K [])
    | t :: ts, l, K => lC l fun v l => castT P t v fun v => go ts l fun r => K (v :: r)
def rdCast (h : AW) (i : Nat) : Nat → List TypeDesc → (List Value → Prop) → Prop
  | _, [], K => K []
  | off, d :: ds, K => oB (h.rd i off) fun v => castD d v fun v => rdCast h i (off + 1) ds fun r => K (v :: r)

def kLoad (h : AW) (t : TypeId) (a : Value) (K : Value → Prop) : Prop :=
  match tiOf P t with
  | some ti => vPtr a fun p => aP p fun i off => match ti.agg with
    | true => match descs P 8 t with
      | some ds => match Nat.beq ds.length ti.size with
        | true => rdCast h i off ds fun l => K (.agg ⟨l⟩)
        | false => False
      | none => False
    | false => oB (h.rd i off) fun v => castD ti.und v K
  | none => False

def kNil (v : Value) (K : Value → Prop) : Prop :=
  match v with
  | .pointer p => aP p fun i off => K (ptr i off)
  | v => oB (nilCheckV v) fun v => K v

def isNilC : Operand → Bool
  | .const v => match v with
    | .pointer none | .slice none _ _ | .map none | .nilFunc | .nilIface => true
    | _ => false
  | _ => false

def cellB : TypeDesc → Value → Value → Option Bool
  | .bool, .bool a, .bool b => some (a == b)
  | .int _, .int k a, .int k' b => match decide (k = k') with | true => some (a == b) | false => none
  | .string, .string a, .string b => some (bEq a b)
  | _, _, _ => none
def fieldsB : List Field → List Value → List Value → Option Bool
  | [], [], [] => some true
  | f :: fs, x :: xs, y :: ys => match P.underlying f.type with
    | some d => match cellB d x y, fieldsB fs xs ys with
      | some a, some b => some (a && b)
      | _, _ => none
    | none => none
  | _, _, _ => none
def eqNil (d : TypeDesc) (w : Value) (v : Value) (K : Bool → Prop) : Prop :=
  match d, w with
  | .pointer _, .pointer none => vPtr v fun p => K p.isNone
  | .slice _, .slice none _ _ => vSl v fun a _ _ => K a.isNone
  | .map _ _, .map none => vMap v fun r => K r.isNone
  | .interface _, .nilIface => oB (nilI v) K
  | .func _ _ _, .nilFunc => oB (nilF v) K
  | _, _ => False
def kEq (t : TypeId) (x y : Operand) (vx vy : Value) (K : Bool → Prop) : Prop :=
  match tiOf P t with
  | some ti => match isNilC y with
    | true => eqNil ti.und vy vx K
    | false => match isNilC x with
      | true => eqNil ti.und vx vy K
      | false => match ti.und with
        | .bool => vBool vx fun a => vBool vy fun b => K (a == b)
        | .struct fs => match plainEq P t fs with
          | true => vAgg vx fun xs => vAgg vy fun ys => match fieldsB P fs.toList xs ys with
            | some b => K b
            | none => False
          | false => False
        | _ => oB (eqV P t (isConst x || isConst y) vx vy) K
  | none => False

def kInt (op : BinOp) (k : IntKind) (x y : Int) (K : Value → Prop) : Prop :=
  match op with
  | .quo => bC (decide (y = 0)) False (K (.int k (k.wrap (x.tdiv y))))
  | .rem => bC (decide (y = 0)) False (K (.int k (x.tmod y)))
  | .eql => K (.bool (x == y))
  | .neq => K (.bool (x != y))
  | .add => K (.int k (k.wrap (x + y)))
  | .sub => K (.int k (k.wrap (x - y)))
  | .mul => K (.int k (k.wrap (x * y)))
  | .lss => K (.bool (x < y))
  | .leq => K (.bool (x ≤ y))
  | .gtr => K (.bool (x > y))
  | .geq => K (.bool (x ≥ y))
  | op => match intBin op k x y with | some v => K v | none => False
def kStr (op : BinOp) (x y : ByteArray) (K : Value → Prop) : Prop :=
  match op with
  | .add => bC (Nat.ble (x.size + y.size) 9223372036854775807) (K (.string (x ++ y))) False
  | .eql => K (.bool (bEq x y))
  | .neq => K (.bool !(bEq x y))
  | op => match strBin op x y with | some v => K v | none => False
def kBin0 (op : BinOp) (t : TypeId) (x y : Operand) (vx vy : Value) (K : Value → Prop) : Prop :=
  match vx, vy with
  | .int k a, .int k' b => match op with
    | .shl => bC (decide (b < 0)) False (K (.int k (k.wrap (a * 2 ^ (min b.toNat k.bits)))))
    | .shr => bC (decide (b < 0)) False (K (.int k (a.fdiv (2 ^ (min b.toNat k.bits)))))
    | op => match decide (k = k') with | true => kInt op k a b K | false => False
  | .string a, .string b => kStr op a b K
  | vx, vy => match op with
    | .eql => kEq P t x y vx vy fun b => K (.bool b)
    | .neq => kEq P t x y vx vy fun b => K (.bool !b)
    | _ => False
/-- An interface may be asked whether it is nil, though nothing else is known of it. -/
def kBin (op : BinOp) (t : TypeId) (x y : Operand) (vx vy : Value) (K : Value → Prop) : Prop :=
  match isNilC y, vy with
  | true, .nilIface => (match op with
    | .eql => kEq P t x y vx .nilIface fun b => K (.bool b)
    | .neq => kEq P t x y vx .nilIface fun b => K (.bool !b)
    | _ => False)
  | _, vy => kBin0 P op t x y vx vy K

def kConv (h : AW) (s d : TypeId) (x : Value) (K : Value → AW → Prop) : Prop :=
  match tiOf P s, tiOf P d with
  | some si, some di => match di.und with
    | .int k => (match x with | .int _ n => K (.int k (k.wrap n)) h | _ => False)
    | .string => (match x with
      | .int _ n => K (.string (Utf8.encode n)) h
      | .string b => K (.string b) h
      | .slice a len _ => (match si.und with
        | .slice e => match tiOf P e with
          | some te => match te.und with
            | .int .u8 => oB (h.bytes a len) fun s => K (.string s) h
            | _ => False
          | none => False
        | _ => False)
      | _ => False)
    | .slice _ => oP (convA P h s d x) fun v h => vSl v fun a l c => K (.slice a l c) h
    | .unsafePointer => (match x with
      | .pointer p => oP (convA P h s d (.pointer p)) fun v h => vPtr v fun p => K (.pointer p) h
      | _ => False)
    | .pointer _ => (match x with
      | .pointer p => oP (convA P h s d (.pointer p)) fun v h => vPtr v fun p => K (.pointer p) h
      | _ => False)
    | _ => False
  | _, _ => False

def kBnd (x : Option Value) (n dflt : Nat) (K : Nat → Prop) : Prop :=
  match x with
  | none => K dflt
  | some v => match v with
    | .int _ z => oB (natBnd z n) K
    | _ => False
def kSlice (h : AW) (t : TypeId) (x : Value) (lo hi : Option Value) (K : Value → Prop) : Prop :=
  match tiOf P t with
  | some ti => match ti.und with
    | .string => vStr x fun s => kBnd hi s.size s.size fun hi => kBnd lo hi 0 fun lo => K (.string (bSub s lo hi))
    | .slice elem => match tiOf P elem with
      | some te => vSl x fun a len cap => kBnd hi cap len fun hi => kBnd lo hi 0 fun l => bC (Nat.ble hi cap) (oB (shO a (l * te.size)) fun a => K (.slice a (hi - l) (cap - l))) False
      | none => False
    | _ => oB (sliceQ P h t x lo hi) fun v => vSl v fun a l c => K (.slice a l c)
  | none => False

def kFieldAddr (t : TypeId) (x : Value) (f : Nat) (K : Value → Prop) : Prop :=
  match tiOf P t with
  | some ti => match ti.und with
    | .struct fs => match fs[f]? with
      | some fd => match tiOf P fd.type with
        | some tf => match Nat.beq tf.size 0 with
          | true => False
          | false => vPtr x fun p => aP p fun b off => K (ptr b (off + fd.offset))
        | none => False
      | none => False
    | _ => False
  | none => False

def kIndexAddr (t : TypeId) (x i : Value) (K : Value → Prop) : Prop :=
  match tiOf P t, i with
  | some ti, .int _ z => match ti.und with
    | .array len elem => match tiOf P elem with
      | some te => vPtr x fun p => aP p fun b off => oB (natIdx z len) fun j => K (ptr b (off + j * te.size))
      | none => False
    | .slice elem => match tiOf P elem with
      | some te => vSl x fun a len _ => aP a fun b off => oB (natIdx z len) fun j => K (ptr b (off + j * te.size))
      | none => False
    | _ => False
  | _, _ => False
def kIndex (t : TypeId) (x i : Value) (K : Value → Prop) : Prop :=
  match tiOf P t, i with
  | some ti, .int _ z => match ti.und with
    | .string => vStr x fun s => oB (natIdx z s.size) fun j => oB (bAt s j) fun b => K (.int .u8 b)
    | .array _ e => oB (indexV P t x i) fun v => castT P e v K
    | _ => False
  | _, _ => False
def kLookup (h : AW) (t : TypeId) (m k : Value) (ok : Bool) (K : Value → Prop) : Prop :=
  match tiOf P t with
  | some ti => match ti.und with
    | .map kt et => match tiOf P kt, tiOf P et with
      | some tk, some te => match keyKind tk.und, te.zero with
        | true, some z => vMap m fun r => oB (h.mapL r) fun es => oB (look tk.und k es) fun w =>
          castT P et (w.getD z) fun v => match ok with
            | true => K (.tuple ⟨[v, .bool w.isSome]⟩)
            | false => K v
        | _, _ => False
      | _, _ => False
    | _ => False
  | none => False

def kQ (o : Op) (F : Fr) (h : AW) (K : Value → Prop) : Prop :=
  match o with
  | .move x => K (F.ev x)
  | .assign x => K (F.ev x)
  | .pick c a b => vBool (F.ev c) fun x => bC x (K (F.ev a)) (K (F.ev b))
  | .build t parts => match buildV P t (parts.toList.map fun p => (p.1, F.ev p.2)) with | some v => K v | none => False
  | .load t a => kLoad P h t (F.ev a) K
  | .nilCheck x => kNil (F.ev x) K
  | .binOp op t x y _ => kBin P op t x y (F.ev x) (F.ev y) K
  | .unOp op _ x => match unV op (F.ev x) with | some v => K v | none => False
  | .makeInterface t x => match tiOf P t with
    | some ti => (match ti.und with | .interface _ => False | _ => K (.iface t (F.ev x)))
    | none => False
  | .makeFunc fn first captured => K (.func fn ⟨vals F first⟩ ⟨vals F captured⟩)
  | .slice t x lo hi none => kSlice P h t (F.ev x) (lo.map F.ev) (hi.map F.ev) K
  | .fieldAddr t x f => kFieldAddr P t (F.ev x) f K
  | .field t x f => match fieldV P t (F.ev x) f with | some v => K v | none => False
  | .indexAddr t x i => kIndexAddr P t (F.ev x) (F.ev i) K
  | .index t x i => kIndex P t (F.ev x) (F.ev i) K
  | .lookup t m k ok => kLookup P h t (F.ev m) (F.ev k) ok K
  | .extract x i => match F.ev x with | .tuple vs => (match vs.toList[i]? with | some v => K v | none => False) | _ => False
  | _ => False

def kLen (h : AW) (t : TypeId) (x : Value) (K : Value → Prop) : Prop :=
  match tiOf P t with
  | some ti => match ti.und with
    | .string => vStr x fun s => K (goInt s.size)
    | .slice _ => vSl x fun _ n _ => K (goInt n)
    | .map _ _ => vMap x fun r => oB (h.mapL r) fun es => K (goInt es.length)
    | .array n _ => K (goInt n)
    | _ => oB (lenB P h #[t] [x]) fun v => vInt .i64 v fun n => K (.int .i64 n)
  | none => False
def kBuiltin (b : Builtin) (ts : Array TypeId) (args : List Value) (h : AW) (K : Value → AW → Prop) : Prop :=
  match b with
  | .len => match ts.toList, args with
    | [t], [x] => kLen P h t x fun v => K v h
    | _, _ => False
  | .cap => oB (capB P h ts args) fun v => vInt .i64 v fun n => K (.int .i64 n) h
  | .min => match args with | x :: l => (match minL x l with | some v => K v h | none => False) | [] => False
  | .max => match args with | x :: l => (match maxL x l with | some v => K v h | none => False) | [] => False
  | .append => oP (appendB P h ts args) fun v h => vSl v fun a l c => K (.slice a l c) h
  | .copy => oP (copyB P h ts args) fun v h => vInt .i64 v fun n => K (.int .i64 n) h
  | .delete => oP (deleteB P h ts args) K
  | .clear => oP (clearB P h ts args) K
  | .unsafeString => oP (ustrB P h ts args) fun v h => vStr v fun s => K (.string s) h
  | .unsafeSliceData => match args with
    | [x] => vSl x fun a l c => oB (sdataB [.slice a l c]) fun v => vPtr v fun p => K (.pointer p) h
    | _ => False
  | _ => False

def kA (o : Op) (F : Fr) (h : AW) (K : Value → AW → Prop) : Prop :=
  match o with
  | .alloc t => match tiOf P t with
    | some ti => match ti.zero with
      | some z => match allOne z.cells.toList with
        | true => (match selfT P t with
          | true => K (ptr h.next 0) ((h.addVar z.cells.toList).tag h.next t)
          | false => K (ptr h.next 0) (h.addVar z.cells.toList))
        | false => False
      | none => False
    | none => False
  | .box _ x => match allOne (F.ev x).cells.toList with
    | true => K (ptr h.next 0) (h.addVar (F.ev x).cells.toList)
    | false => False
  | .buildSlice t len parts => match tiOf P t with
    | some ti => match ti.und with
      | .slice elem => match tiOf P elem with
        | some te => match te.zero, Nat.ble (len * te.size) 16777216 with
          | some z, true => match Nat.beq z.cells.size te.size with
            | true => match Instr.fill (fun i => some (i * te.size, te.size)) ⟨rep z.cells.toList len⟩ (parts.toList.map fun p => (p.1, F.ev p.2)) with
              | some cs => match allOne cs.toList with
                | true => K (.slice (some ⟨h.next, 0, none⟩) len len) (h.addVar cs.toList)
                | false => False
              | none => False
            | false => False
          | _, _ => False
        | none => False
      | _ => False
    | none => False
  | .store t a x => match tiOf P t with
    | some ti => vPtr (F.ev a) fun p => aP p fun i off => match F.ev x with
      | .agg cs => match Nat.beq cs.size ti.size with
        | true => oB (h.wrL i off cs.toList) fun h => K undef h
        | false => False
      | v => match Nat.beq ti.size 1 with
        | true => oB (h.wr i off v) fun h => K undef h
        | false => False
    | none => False
  | .convert s d x => kConv P h s d (F.ev x) K
  | .makeMap _ none => K (.map (some h.next)) h.addMap
  | .makeMap t (some x) => oP (opA P F h (.makeMap t (some x))) fun v h => vMap v fun r => K (.map r) h
  | .makeSlice t l c => oP (makeSliceV P h t (F.ev l) (F.ev c)) fun v h => vSl v fun a l c => K (.slice a l c) h
  | .slice t x lo hi (some mx) => oP (sliceA P h t (F.ev x) (lo.map F.ev) (hi.map F.ev) (F.ev mx)) fun v h => vSl v fun a l c => K (.slice a l c) h
  | .mapUpdate t m k v => oB (mapUpdV P h t (F.ev m) (F.ev k) (F.ev v)) fun h => K undef h
  | .insert t m k v => oB (mapUpdV P h t (F.ev m) (F.ev k) (F.ev v)) fun h => K undef h
  | .call { callee := .builtin b, args, argTypes } => kBuiltin P b argTypes (vals F args) h K
  | o => kQ P o F h fun v => K v h
end
end Go.Abs
end

section
/- Walks, second part: the words are right. -/
namespace Go.Abs
variable {P : Program} {F : Fr} {h : AW}

theorem castD_ok {d : TypeDesc} {v : Value} {K : Value → Prop} (H : castD d v K) : K v := by
  unfold castD at H
  split at H
  · obtain ⟨n, rfl, x⟩ := vInt_ok H; exact x
  · obtain ⟨n, rfl, x⟩ := vBool_ok H; exact x
  · obtain ⟨n, rfl, x⟩ := vStr_ok H; exact x
  · obtain ⟨n, rfl, x⟩ := vPtr_ok H; exact x
  · obtain ⟨n, rfl, x⟩ := vPtr_ok H; exact x
  · obtain ⟨a, l, c, rfl, x⟩ := vSl_ok H; exact x
  · obtain ⟨n, rfl, x⟩ := vMap_ok H; exact x
  · rcases vIfc_ok H with ⟨rfl, x⟩ | ⟨t, y, rfl, x⟩ <;> exact x
  · exact H
theorem castL_ok : ∀ {ds : List TypeDesc} {l : List Value} {K : List Value → Prop}, castL ds l K → K l
  | [], l, K, H => by
    obtain ⟨rfl, x⟩ := lN_ok H
    exact x
  | d :: ds, l, K, H => by
    obtain ⟨v, r, rfl, x⟩ := lC_ok H
    exact castL_ok (K := fun r => K (v :: r)) (castD_ok (K := fun v => castL ds r fun r => K (v :: r)) x)
theorem castT_ok {t : TypeId} {v : Value} {K : Value → Prop} (H : castT P t v K) : K v := by
  unfold castT at H
  split at H
  · split at H
    · split at H
      · obtain ⟨cs, rfl, x⟩ := vAgg_ok H
        exact castL_ok x
      · exact H.elim
    · exact castD_ok H
  · exact H.elim
theorem castRgo_ok : ∀ {ts : List TypeId} {l : List Value} {K : List Value → Prop}, castR.go P ts l K → K l
  | [], l, K, H => by
    obtain ⟨rfl, x⟩ := lN_ok H
    exact x
  | d :: ds, l, K, H => by
    obtain ⟨v, r, rfl, x⟩ := lC_ok H
    exact castRgo_ok (K := fun r => K (v :: r)) (castT_ok (K := fun v => castR.go P ds r fun r => K (v :: r)) x)
theorem rdCast_ok {i : Nat} : ∀ {ds : List TypeDesc} {off : Nat} {K : List Value → Prop}, rdCast h i off ds K → ∃ l, h.rdN i off ds.length = some l ∧ K l
  | [], off, K, H => ⟨[], rfl, H⟩
  | d :: ds, off, K, H => by
    obtain ⟨v, e, x⟩ := oB_ok H
    obtain ⟨l, e', x⟩ := rdCast_ok (castD_ok x)
    refine ⟨v :: l, ?_, x⟩
    simp only [List.length_cons, AW.rdN, e, e']
theorem kLoad_ok {t : TypeId} {a : Value} {K : Value → Prop} (H : kLoad P h t a K) : ∃ v, loadV P h t a = some v ∧ K v := by
  unfold kLoad at H
  split at H
  · rename_i ti ht
    obtain ⟨p, rfl, H⟩ := vPtr_ok H
    obtain ⟨i, off, rfl, H⟩ := aP_ok H
    simp only [loadV, ht]
    split at H
    · rename_i ha
      simp only [ha]
      split at H
      · split at H
        · rename_i hl
          obtain ⟨l, e, x⟩ := rdCast_ok H
          rw [Nat.eq_of_beq_eq_true hl] at e
          rw [e]
          exact ⟨_, rfl, x⟩
        · exact H.elim
      · exact H.elim
    · rename_i ha
      simp only [ha]
      obtain ⟨v, e, x⟩ := oB_ok H
      exact ⟨v, e, castD_ok x⟩
  · exact H.elim
theorem kNil_ok {v : Value} {K : Value → Prop} (H : kNil v K) : ∃ v', nilCheckV v = some v' ∧ K v' := by
  unfold kNil at H
  split at H
  · obtain ⟨i, off, rfl, H⟩ := aP_ok H
    exact ⟨_, rfl, H⟩
  · exact oB_ok H
theorem cellB_ok {d : TypeDesc} {x y : Value} {b : Bool} (H : cellB d x y = some b) : cellFits d x = true ∧ cellEq x y = some b := by
  unfold cellB at H
  split at H
  · exact ⟨rfl, H⟩
  · split at H
    · rename_i e
      have := of_decide_eq_true e; subst this
      simp only [cellFits, cellEq, if_pos]
      exact ⟨trivial, H⟩
    · cases H
  · exact ⟨rfl, H⟩
  · cases H
theorem fieldsB_ok : ∀ {fs : List Field} {xs ys : List Value} {b : Bool}, fieldsB P fs xs ys = some b → fieldsEq P fs xs ys = some b
  | [], [], [], b, H => H
  | f :: fs, x :: xs, y :: ys, b, H => by
    simp only [fieldsB] at H
    simp only [fieldsEq]
    split at H
    · rename_i d hd
      rw [hd]; simp only
      split at H
      · rename_i a c ha hc
        obtain ⟨h1, h2⟩ := cellB_ok ha
        simp only [h1, h2]
        have := fieldsB_ok hc
        cases a with
        | true => simp only; rw [this]; simpa using H
        | false => simpa using H
      · cases H
    · cases H
  | [], [], _ :: _, b, H => by simp [fieldsB] at H
  | [], _ :: _, _, b, H => by simp [fieldsB] at H
  | _ :: _, [], _, b, H => by simp [fieldsB] at H
  | _ :: _, _ :: _, [], b, H => by simp [fieldsB] at H
theorem eqNil_ok {t : TypeId} {ti : TI} (ht : tiOf P t = some ti) {v w : Value} {K : Bool → Prop} (H : eqNil ti.und w v K) :
    ∃ b, eqV P t true w v = some b ∧ eqV P t true v w = some b ∧ K b := by
  unfold eqNil at H
  split at H
  · rename_i e hu
    obtain ⟨p, rfl, x⟩ := vPtr_ok H
    refine ⟨_, ?_, ?_, x⟩
    · unfold eqV; rw [ht]; simp only [hu]
    · unfold eqV; rw [ht]; simp only [hu]; cases p <;> rfl
  · rename_i e l c hu
    obtain ⟨p, l', c', rfl, x⟩ := vSl_ok H
    refine ⟨_, ?_, ?_, x⟩
    · unfold eqV; rw [ht]; simp only [hu]
    · unfold eqV; rw [ht]; simp only [hu]; cases p <;> rfl
  · rename_i e e' hu
    obtain ⟨p, rfl, x⟩ := vMap_ok H
    refine ⟨_, ?_, ?_, x⟩
    · unfold eqV; rw [ht]; simp only [hu]
    · unfold eqV; rw [ht]; simp only [hu]; cases p <;> rfl
  · rename_i e hu
    obtain ⟨b, e', x⟩ := oB_ok H
    refine ⟨b, ?_, ?_, x⟩ <;> (unfold eqV; rw [ht]; simp only [hu]; unfold nilI at e'; split at e' <;> first | exact e' | cases e')
  · rename_i e1 e2 e3 hu
    obtain ⟨b, e', x⟩ := oB_ok H
    refine ⟨b, ?_, ?_, x⟩ <;> (unfold eqV; rw [ht]; simp only [hu]; unfold nilF at e'; split at e' <;> first | exact e' | cases e')
  · exact H.elim
theorem isNilC_const {x : Operand} (h : isNilC x = true) : isConst x = true := by
  cases x <;> simp [isNilC] at h <;> rfl
theorem kEq_ok {t : TypeId} {x y : Operand} {vx vy : Value} {K : Bool → Prop} (H : kEq P t x y vx vy K) : ∃ b, eqV P t (isConst x || isConst y) vx vy = some b ∧ K b := by
  unfold kEq at H
  split at H
  · rename_i ti ht
    split at H
    · rename_i hy
      obtain ⟨b, _, e, k⟩ := eqNil_ok ht H
      rw [isNilC_const hy, Bool.or_true]
      exact ⟨b, e, k⟩
    · split at H
      · rename_i hx
        obtain ⟨b, e, _, k⟩ := eqNil_ok ht H
        rw [isNilC_const hx, Bool.true_or]
        exact ⟨b, e, k⟩
      · split at H
        · rename_i hu
          obtain ⟨a, rfl, H1⟩ := vBool_ok H
          obtain ⟨b, rfl, H2⟩ := vBool_ok H1
          refine ⟨_, ?_, H2⟩
          unfold eqV; rw [ht]; simp only [hu]
        · rename_i fs hu
          split at H
          · rename_i hp
            obtain ⟨xs, rfl, H1⟩ := vAgg_ok H
            obtain ⟨ys, rfl, H2⟩ := vAgg_ok H1
            split at H2
            · rename_i b hb
              refine ⟨b, ?_, H2⟩
              unfold eqV; rw [ht]; simp only [hu, hp]
              exact fieldsB_ok hb
            · exact H2.elim
          · exact H.elim
        · exact oB_ok H
  · exact H.elim
theorem kInt_ok {op : BinOp} {k : IntKind} {x y : Int} {K : Value → Prop} (H : kInt op k x y K) : ∃ v, intBin op k x y = some v ∧ K v := by
  unfold kInt at H
  split at H
  · rcases bC_ok H with ⟨_, x⟩ | ⟨e, x⟩
    · exact x.elim
    · exact ⟨_, by simp only [intBin]; rw [if_neg (of_decide_eq_false e)], x⟩
  · rcases bC_ok H with ⟨_, x⟩ | ⟨e, x⟩
    · exact x.elim
    · exact ⟨_, by simp only [intBin]; rw [if_neg (of_decide_eq_false e)], x⟩
  all_goals first | exact ⟨_, rfl, H⟩ | skip
  split at H
  · rename_i v hv
    exact ⟨v, hv, H⟩
  · exact H.elim
theorem kStr_ok {op : BinOp} {x y : ByteArray} {K : Value → Prop} (H : kStr op x y K) : ∃ v, strBin op x y = some v ∧ K v := by
  unfold kStr at H
  split at H
  · rcases bC_ok H with ⟨e, x⟩ | ⟨e, x⟩
    · exact ⟨_, by simp only [strBin]; rw [e], x⟩
    · exact x.elim
  all_goals first | exact ⟨_, rfl, H⟩ | skip
  split at H
  · rename_i v hv
    exact ⟨v, hv, H⟩
  · exact H.elim
theorem kBin0_ok {op : BinOp} {t : TypeId} {x y : Operand} {vx vy : Value} {K : Value → Prop} (H : kBin0 P op t x y vx vy K) : ∃ v, binV P op t (isConst x || isConst y) vx vy = some v ∧ K v := by
  unfold kBin0 at H
  split at H
  · split at H
    · rcases bC_ok H with ⟨_, x⟩ | ⟨e, x⟩
      · exact x.elim
      · exact ⟨_, by simp only [binV]; rw [if_neg (of_decide_eq_false e)], x⟩
    · rcases bC_ok H with ⟨_, x⟩ | ⟨e, x⟩
      · exact x.elim
      · exact ⟨_, by simp only [binV]; rw [if_neg (of_decide_eq_false e)], x⟩
    · rename_i h1 h2
      split at H
      · rename_i e
        have := of_decide_eq_true e
        obtain ⟨v, hv, x⟩ := kInt_ok H
        refine ⟨v, ?_, x⟩
        cases op <;> first | (exact absurd rfl h1) | (exact absurd rfl h2) | (simp only [binV]; rw [if_pos this]; exact hv)
      · exact H.elim
  · obtain ⟨v, hv, x⟩ := kStr_ok H
    refine ⟨v, ?_, x⟩
    cases op <;> first | exact hv | (simp [strBin] at hv)
  · rename_i h1 h2
    split at H
    · obtain ⟨b, hb, x⟩ := kEq_ok H
      refine ⟨_, ?_, x⟩
      have : ∀ lit, binV P .eql t lit vx vy = (match eqV P t lit vx vy with | some b => some (.bool b) | none => none) := by
        intro lit
        cases vx <;> cases vy <;> first | rfl | exact (h1 _ _ _ _ rfl rfl).elim | exact (h2 _ _ rfl rfl).elim
      rw [this, hb]
    · obtain ⟨b, hb, x⟩ := kEq_ok H
      refine ⟨_, ?_, x⟩
      have : ∀ lit, binV P .neq t lit vx vy = (match eqV P t lit vx vy with | some b => some (.bool !b) | none => none) := by
        intro lit
        cases vx <;> cases vy <;> first | rfl | exact (h1 _ _ _ _ rfl rfl).elim | exact (h2 _ _ rfl rfl).elim
      rw [this, hb]
    · exact H.elim
theorem kBin_ok {op : BinOp} {t : TypeId} {x y : Operand} {vx vy : Value} {K : Value → Prop} (H : kBin P op t x y vx vy K) : ∃ v, binV P op t (isConst x || isConst y) vx vy = some v ∧ K v := by
  unfold kBin at H
  split at H
  · split at H
    · obtain ⟨b, hb, k⟩ := kEq_ok H
      refine ⟨_, ?_, k⟩
      have : ∀ lit, binV P .eql t lit vx .nilIface = (match eqV P t lit vx .nilIface with | some b => some (.bool b) | none => none) := by
        intro lit
        cases vx <;> rfl
      rw [this, hb]
    · obtain ⟨b, hb, k⟩ := kEq_ok H
      refine ⟨_, ?_, k⟩
      have : ∀ lit, binV P .neq t lit vx .nilIface = (match eqV P t lit vx .nilIface with | some b => some (.bool !b) | none => none) := by
        intro lit
        cases vx <;> rfl
      rw [this, hb]
    · exact H.elim
  · exact kBin0_ok H
theorem natIdx_idx {k : IntKind} {z : Int} {n : Nat} : idx (.int k z) n = natIdx z n := by
  unfold idx natIdx
  cases z <;> rfl
theorem natBnd_bnd {k : IntKind} {z : Int} {n : Nat} : bnd (.int k z) n = natBnd z n := by
  unfold bnd natBnd
  cases z <;> rfl
theorem kBnd_ok {x : Option Value} {n d : Nat} {K : Nat → Prop} (H : kBnd x n d K) : ∃ m, bndO x n d = some m ∧ K m := by
  unfold kBnd at H
  split at H
  · exact ⟨_, rfl, H⟩
  · split at H
    · rename_i k z
      obtain ⟨m, e, x⟩ := oB_ok H
      exact ⟨m, by simp only [bndO]; rw [natBnd_bnd, e], x⟩
    · exact H.elim
theorem bytes_ok {s d : TypeId} {a : Option Addr} {len c : Nat} {si di te : TI} {e : TypeId} {b : ByteArray} (hs : tiOf P s = some si) (hd : tiOf P d = some di) (hdu : di.und = .string) (hsu : si.und = .slice e) (he : tiOf P e = some te) (hte : te.und = .int .u8)
    (hb : h.bytes a len = some b) : convQ P h s d (.slice a len c) = some (.string b) := by
  unfold convQ
  rw [hs, hd]
  simp only [hdu]
  unfold AW.bytes at hb
  split at hb
  · simp only [hsu, he, hte]; cases hb; rfl
  · simp only [hsu, he, hte]
    split at hb
    · rename_i l hl
      rw [hl]; simp only
      split at hb
      · rename_i bs hbs
        cases hb
        rw [hbs]
      · cases hb
    · cases hb
  · cases hb
theorem kConv_ok {s d : TypeId} {x : Value} {K : Value → AW → Prop} (H : kConv P h s d x K) : ∃ v h', (match convQ P h s d x with | some v => some (v, h) | none => convA P h s d x) = some (v, h') ∧ K v h' := by
  unfold kConv at H
  split at H
  · rename_i si di hs hd
    split at H
    · rename_i k hu
      split at H
      · refine ⟨_, _, ?_, H⟩
        unfold convQ; rw [hs, hd]; simp only [hu]
      · exact H.elim
    · rename_i hu
      split at H
      · refine ⟨_, _, ?_, H⟩
        unfold convQ; rw [hs, hd]; simp only [hu]
      · refine ⟨_, _, ?_, H⟩
        unfold convQ; rw [hs, hd]; simp only [hu]
      · split at H
        · rename_i e hsu
          split at H
          · rename_i te he
            split at H
            · rename_i hte
              obtain ⟨b, hb, x⟩ := oB_ok H
              refine ⟨_, _, ?_, x⟩
              rw [bytes_ok hs hd hu hsu he hte hb]
            · exact H.elim
          · exact H.elim
        · exact H.elim
      · exact H.elim
    · rename_i e hu
      obtain ⟨v, h', e', y⟩ := oP_ok H
      obtain ⟨a, l, c, rfl, y⟩ := vSl_ok y
      refine ⟨_, _, ?_, y⟩
      have : convQ P h s d x = none := by unfold convQ; rw [hs, hd]; simp only [hu]
      rw [this]
      exact e'
    · rename_i hu
      split at H
      · obtain ⟨v, h', e', y⟩ := oP_ok H
        obtain ⟨p, rfl, y⟩ := vPtr_ok y
        refine ⟨_, _, ?_, y⟩
        have : ∀ p, convQ P h s d (.pointer p) = none := fun p => by unfold convQ; rw [hs, hd]; simp only [hu]
        rw [this]
        exact e'
      · exact H.elim
    · rename_i u hu
      split at H
      · obtain ⟨v, h', e', y⟩ := oP_ok H
        obtain ⟨p, rfl, y⟩ := vPtr_ok y
        refine ⟨_, _, ?_, y⟩
        have : ∀ p, convQ P h s d (.pointer p) = none := fun p => by unfold convQ; rw [hs, hd]; simp only [hu]
        rw [this]
        exact e'
      · exact H.elim
    · exact H.elim
  · exact H.elim
end Go.Abs
end

section
/- Walks, third part: operations. -/
namespace Go.Abs
variable {P : Program} {F : Fr} {h : AW}

theorem kSlice_ok {t : TypeId} {x : Value} {lo hi : Option Value} {K : Value → Prop} (H : kSlice P h t x lo hi K) : ∃ v, sliceQ P h t x lo hi = some v ∧ K v := by
  unfold kSlice at H
  split at H
  · rename_i ti ht
    split at H
    · rename_i hu
      have H' := vStr_ok H; clear H; obtain ⟨s, rfl, H⟩ := H'
      have H' := kBnd_ok H; clear H; obtain ⟨b, e, H⟩ := H'
      have H' := kBnd_ok H; clear H; obtain ⟨a, e', H⟩ := H'
      refine ⟨_, ?_, H⟩
      unfold sliceQ; rw [ht]; simp only [hu, e, e']; rfl
    · rename_i el hu
      split at H
      · rename_i te he
        have H' := vSl_ok H; clear H; obtain ⟨a, len, cap, rfl, H⟩ := H'
        have H' := kBnd_ok H; clear H; obtain ⟨b, e, H⟩ := H'
        have H' := kBnd_ok H; clear H; obtain ⟨c, e', H⟩ := H'
        rcases bC_ok H with ⟨e2, H⟩ | ⟨_, H⟩
        · have H' := oB_ok H; clear H; obtain ⟨a', ea, H⟩ := H'
          refine ⟨_, ?_, H⟩
          unfold sliceQ; rw [ht]; simp only [hu, e, e', he, e2]
          unfold shO at ea
          split at ea
          · cases ea; rfl
          · cases ea; rfl
          · cases ea
        · exact H.elim
      · exact H.elim
    · have H' := oB_ok H; clear H; obtain ⟨v, e, H⟩ := H'
      have H' := vSl_ok H; clear H; obtain ⟨a, l, c, rfl, H⟩ := H'
      exact ⟨_, e, H⟩
  · exact H.elim
theorem kFieldAddr_ok {t : TypeId} {x : Value} {f : Nat} {K : Value → Prop} (H : kFieldAddr P t x f K) : ∃ v, fieldAddrV P t x f = some v ∧ K v := by
  unfold kFieldAddr at H
  split at H
  · rename_i ti ht
    split at H
    · rename_i fs hu
      split at H
      · rename_i fd hf
        split at H
        · rename_i tf htf
          split at H
          · exact H.elim
          · rename_i hz
            have H' := vPtr_ok H; clear H; obtain ⟨p, rfl, H⟩ := H'
            have H' := aP_ok H; clear H; obtain ⟨i, off, rfl, H⟩ := H'
            refine ⟨_, ?_, H⟩
            unfold fieldAddrV; rw [ht]; simp only [hu, hf, htf, hz]
        · exact H.elim
      · exact H.elim
    · exact H.elim
  · exact H.elim
theorem kIndexAddr_ok {t : TypeId} {x i : Value} {K : Value → Prop} (H : kIndexAddr P t x i K) : ∃ v, indexAddrV P t x i = some v ∧ K v := by
  unfold kIndexAddr at H
  split at H
  · rename_i ti k z ht
    split at H
    · rename_i len el hu
      split at H
      · rename_i te he
        have H' := vPtr_ok H; clear H; obtain ⟨p, rfl, H⟩ := H'
        have H' := aP_ok H; clear H; obtain ⟨i, off, rfl, H⟩ := H'
        have H' := oB_ok H; clear H; obtain ⟨j, e, H⟩ := H'
        refine ⟨_, ?_, H⟩
        unfold indexAddrV; rw [ht]; simp only [hu, natIdx_idx, e, he]
      · exact H.elim
    · rename_i el hu
      split at H
      · rename_i te he
        have H' := vSl_ok H; clear H; obtain ⟨p, len, cap, rfl, H⟩ := H'
        have H' := aP_ok H; clear H; obtain ⟨i, off, rfl, H⟩ := H'
        have H' := oB_ok H; clear H; obtain ⟨j, e, H⟩ := H'
        refine ⟨_, ?_, H⟩
        unfold indexAddrV; rw [ht]; simp only [hu, natIdx_idx, e, he]
      · exact H.elim
    · exact H.elim
  · exact H.elim
theorem kIndex_ok {t : TypeId} {x i : Value} {K : Value → Prop} (H : kIndex P t x i K) : ∃ v, indexV P t x i = some v ∧ K v := by
  unfold kIndex at H
  split at H
  · rename_i ti k z ht
    split at H
    · rename_i hu
      have H' := vStr_ok H; clear H; obtain ⟨s, rfl, H⟩ := H'
      have H' := oB_ok H; clear H; obtain ⟨j, e, H⟩ := H'
      have H' := oB_ok H; clear H; obtain ⟨b, e', H⟩ := H'
      refine ⟨_, ?_, H⟩
      unfold indexV; rw [ht]; simp only [hu, natIdx_idx, e]
      unfold bAt at e'
      split at e'
      · rename_i hb; rw [hb]; cases e'; rfl
      · cases e'
    · have H' := oB_ok H; clear H; obtain ⟨v, e, H⟩ := H'
      exact ⟨v, e, castT_ok H⟩
    · exact H.elim
  · exact H.elim
theorem kLookup_ok {t : TypeId} {m k : Value} {ok : Bool} {K : Value → Prop} (H : kLookup P h t m k ok K) : ∃ v, lookupV P h t m k ok = some v ∧ K v := by
  unfold kLookup at H
  split at H
  · rename_i ti ht
    split at H
    · rename_i kt et hu
      split at H
      · rename_i tk te hk he
        split at H
        · rename_i z h1 h2
          have H' := vMap_ok H; clear H; obtain ⟨r, rfl, H⟩ := H'
          have H' := oB_ok H; clear H; obtain ⟨es, e, H⟩ := H'
          have H' := oB_ok H; clear H; obtain ⟨w, e', H⟩ := H'
          have H := castT_ok H
          refine ⟨match ok with | true => .tuple ⟨[w.getD z, .bool w.isSome]⟩ | false => w.getD z, ?_, by cases ok <;> exact H⟩
          · unfold lookupV; rw [ht]; simp only [hu, hk, he, h1, h2]
            unfold AW.mapL at e
            split at e
            · cases e
              simp only [look] at e'
              cases e'
              cases ok <;> rfl
            · simp only
              split at e
              · rename_i es' ho
                cases e
                rw [ho]; simp only
                rw [e']
                cases w <;> cases ok <;> rfl
              · cases e
        · exact H.elim
      · exact H.elim
    · exact H.elim
  · exact H.elim

theorem kQ_ok {o : Op} {K : Value → Prop} (H : kQ P o F h K) : ∃ v, opQ P F h o = some v ∧ K v := by
  unfold kQ at H
  split at H
  · exact ⟨_, rfl, H⟩
  · exact ⟨_, rfl, H⟩
  · have H' := vBool_ok H; clear H; obtain ⟨b, e, H⟩ := H'
    rcases bC_ok H with ⟨rfl, H⟩ | ⟨rfl, H⟩
    · exact ⟨_, by simp only [opQ]; rw [e], H⟩
    · exact ⟨_, by simp only [opQ]; rw [e], H⟩
  · split at H
    · rename_i v e; exact ⟨v, e, H⟩
    · exact H.elim
  · exact kLoad_ok H
  · exact kNil_ok H
  · exact kBin_ok H
  · split at H
    · rename_i v e; exact ⟨v, e, H⟩
    · exact H.elim
  · split at H
    · rename_i ti ht
      split at H
      · exact H.elim
      · rename_i hn
        refine ⟨_, ?_, H⟩
        simp only [opQ]; rw [ht]; simp only
        try (split <;> first | rfl | (rename_i e; exact (hn _ e).elim))
    · exact H.elim
  · exact ⟨_, rfl, H⟩
  · exact kSlice_ok H
  · exact kFieldAddr_ok H
  · split at H
    · rename_i v e; exact ⟨v, e, H⟩
    · exact H.elim
  · exact kIndexAddr_ok H
  · exact kIndex_ok H
  · exact kLookup_ok H
  · split at H
    · rename_i vs e
      split at H
      · rename_i v e'
        refine ⟨v, ?_, H⟩
        simp only [opQ]; rw [e]
        simpa using e'
      · exact H.elim
    · exact H.elim
  · exact H.elim

theorem kLen_ok {t : TypeId} {x : Value} {K : Value → Prop} (H : kLen P h t x K) : ∃ v, lenB P h #[t] [x] = some v ∧ K v := by
  unfold kLen at H
  split at H
  · rename_i ti ht
    split at H
    · rename_i hu
      have H' := vStr_ok H; clear H; obtain ⟨s, rfl, H⟩ := H'
      refine ⟨_, ?_, H⟩
      unfold lenB; simp only; rw [ht]; simp only [hu]
    · rename_i e hu
      have H' := vSl_ok H; clear H; obtain ⟨a, n, c, rfl, H⟩ := H'
      refine ⟨_, ?_, H⟩
      unfold lenB; simp only; rw [ht]; simp only [hu]
    · rename_i e e' hu
      have H' := vMap_ok H; clear H; obtain ⟨r, rfl, H⟩ := H'
      have H' := oB_ok H; clear H; obtain ⟨es, e, H⟩ := H'
      refine ⟨_, ?_, H⟩
      unfold lenB; simp only; rw [ht]; simp only [hu]
      unfold AW.mapL at e
      split at e
      · cases e; rfl
      · simp only
        split at e
        · rename_i ho; cases e; rw [ho]
        · cases e
    · rename_i n e hu
      refine ⟨_, ?_, H⟩
      unfold lenB; simp only; rw [ht]; simp only [hu]
    · have H' := oB_ok H; clear H; obtain ⟨v, e, H⟩ := H'
      have H' := vInt_ok H; clear H; obtain ⟨n, rfl, H⟩ := H'
      exact ⟨_, e, H⟩
  · exact H.elim

theorem kBuiltin_ok {b : Builtin} {ts : Array TypeId} {args : List Value} {K : Value → AW → Prop} (H : kBuiltin P b ts args h K) :
    ∃ v h', (match builtinQ P h b ts args with | some v => some (v, h) | none => builtinA P h b ts args) = some (v, h') ∧ K v h' := by
  unfold kBuiltin at H
  split at H
  · split at H
    · rename_i t x hts
      have H' := kLen_ok H; clear H; obtain ⟨v, e, H⟩ := H'
      refine ⟨_, _, ?_, H⟩
      have : builtinQ P h .len ts [x] = some v := by
        simp only [builtinQ]
        rw [← e]
        unfold lenB
        simp only [hts]
      rw [this]
    · exact H.elim
  · have H' := oB_ok H; clear H; obtain ⟨v, e, H⟩ := H'
    have H' := vInt_ok H; clear H; obtain ⟨n, rfl, H⟩ := H'
    refine ⟨_, _, ?_, H⟩
    simp only [builtinQ]; rw [e]
  · split at H
    · split at H
      · rename_i v e
        refine ⟨_, _, ?_, H⟩
        simp only [builtinQ]; rw [e]
      · exact H.elim
    · exact H.elim
  · split at H
    · split at H
      · rename_i v e
        refine ⟨_, _, ?_, H⟩
        simp only [builtinQ]; rw [e]
      · exact H.elim
    · exact H.elim
  · have H' := oP_ok H; clear H; obtain ⟨v, h', e, H⟩ := H'
    have H' := vSl_ok H; clear H; obtain ⟨a, l, c, rfl, H⟩ := H'
    exact ⟨_, _, by simp only [builtinQ, builtinA]; exact e, H⟩
  · have H' := oP_ok H; clear H; obtain ⟨v, h', e, H⟩ := H'
    have H' := vInt_ok H; clear H; obtain ⟨n, rfl, H⟩ := H'
    exact ⟨_, _, by simp only [builtinQ, builtinA]; exact e, H⟩
  · have H' := oP_ok H; clear H; obtain ⟨v, h', e, H⟩ := H'
    exact ⟨_, _, by simp only [builtinQ, builtinA]; exact e, H⟩
  · have H' := oP_ok H; clear H; obtain ⟨v, h', e, H⟩ := H'
    exact ⟨_, _, by simp only [builtinQ, builtinA]; exact e, H⟩
  · have H' := oP_ok H; clear H; obtain ⟨v, h', e, H⟩ := H'
    have H' := vStr_ok H; clear H; obtain ⟨s, rfl, H⟩ := H'
    exact ⟨_, _, by simp only [builtinQ, builtinA]; exact e, H⟩
  · split at H
    · have H' := vSl_ok H; clear H; obtain ⟨a, l, c, rfl, H⟩ := H'
      have H' := oB_ok H; clear H; obtain ⟨v, e, H⟩ := H'
      have H' := vPtr_ok H; clear H; obtain ⟨p, rfl, H⟩ := H'
      exact ⟨_, _, by simp only [builtinQ]; rw [e], H⟩
    · exact H.elim
  · exact H.elim

theorem kA_ok {o : Op} {K : Value → AW → Prop} (H : kA P o F h K) : ∃ v h', opV P F h o = some (v, h') ∧ K v h' := by
  unfold kA at H
  split at H
  · split at H
    · rename_i ti ht
      split at H
      · rename_i z hz
        split at H
        · rename_i ha
          split at H
          · rename_i hs
            refine ⟨_, _, ?_, H⟩
            simp only [opV, opQ, opA]; rw [ht]; simp only [hz, AW.newVar]; rw [ha, hs]; rfl
          · rename_i hs
            refine ⟨_, _, ?_, H⟩
            simp only [opV, opQ, opA]; rw [ht]; simp only [hz, AW.newVar]; rw [ha, hs]; rfl
        · exact H.elim
      · exact H.elim
    · exact H.elim
  · split at H
    · rename_i ha
      refine ⟨_, _, ?_, H⟩
      simp only [opV, opQ, opA, AW.newVar]; rw [ha]; rfl
    · exact H.elim
  · split at H
    · rename_i ti ht
      split at H
      · rename_i el hu
        split at H
        · rename_i te he
          split at H
          · rename_i z h1 h2
            split at H
            · rename_i hb
              split at H
              · rename_i cs hcs
                split at H
                · rename_i ha
                  refine ⟨_, _, ?_, H⟩
                  simp only [opV, opQ, opA, buildSliceV]; rw [ht]; simp only [hu, he, h1, h2, hb]
                  rw [hcs]; simp only [AW.newVar]; rw [ha]; rfl
                · exact H.elim
              · exact H.elim
            · exact H.elim
          · exact H.elim
        · exact H.elim
      · exact H.elim
    · exact H.elim
  · rename_i t a x
    split at H
    · rename_i ti ht
      have H' := vPtr_ok H; clear H; obtain ⟨p, ep, H⟩ := H'
      have H' := aP_ok H; clear H; obtain ⟨i, off, rfl, H⟩ := H'
      split at H
      · rename_i cs hx
        split at H
        · rename_i hb
          have H' := oB_ok H; clear H; obtain ⟨h', e, H⟩ := H'
          refine ⟨_, _, ?_, H⟩
          simp only [opV, opQ, opA, storeV]; rw [ep, hx]; simp only; rw [ht]; simp only [hb]; rw [e]
        · exact H.elim
      · rename_i hx
        split at H
        · rename_i hb
          have H' := oB_ok H; clear H; obtain ⟨h', e, H⟩ := H'
          refine ⟨_, _, ?_, H⟩
          simp only [opV, opQ, opA, storeV]; rw [ep]; simp only; rw [ht]; simp only
          generalize hw : F.ev x = w at hx e ⊢
          cases w <;> first | exact (hx _ rfl).elim | (simp only [hb]; rw [e])
        · exact H.elim
    · exact H.elim
  · have H' := kConv_ok H; clear H; obtain ⟨v, h', e, H⟩ := H'
    exact ⟨v, h', by simp only [opV, opQ, opA]; exact e, H⟩
  · exact ⟨_, _, rfl, H⟩
  · have H' := oP_ok H; clear H; obtain ⟨v, h', e, H⟩ := H'
    have H' := vMap_ok H; clear H; obtain ⟨r, rfl, H⟩ := H'
    exact ⟨_, _, by simp only [opV, opQ]; exact e, H⟩
  · have H' := oP_ok H; clear H; obtain ⟨v, h', e, H⟩ := H'
    have H' := vSl_ok H; clear H; obtain ⟨a, l, c, rfl, H⟩ := H'
    exact ⟨_, _, by simp only [opV, opQ, opA]; exact e, H⟩
  · have H' := oP_ok H; clear H; obtain ⟨v, h', e, H⟩ := H'
    have H' := vSl_ok H; clear H; obtain ⟨a, l, c, rfl, H⟩ := H'
    exact ⟨_, _, by simp only [opV, opQ, opA]; exact e, H⟩
  · have H' := oB_ok H; clear H; obtain ⟨h', e, H⟩ := H'
    exact ⟨_, _, by simp only [opV, opQ, opA]; rw [e], H⟩
  · have H' := oB_ok H; clear H; obtain ⟨h', e, H⟩ := H'
    exact ⟨_, _, by simp only [opV, opQ, opA]; rw [e], H⟩
  · have H' := kBuiltin_ok H; clear H; obtain ⟨v, h', e, H⟩ := H'
    exact ⟨v, h', by simp only [opV, opQ, opA]; exact e, H⟩
  · have H' := kQ_ok H; clear H; obtain ⟨v, e, H⟩ := H'
    exact ⟨v, h, by simp only [opV]; rw [e], H⟩
end Go.Abs
end

section
/- Walks, fourth part: frames that say less. -/
namespace Go.Abs
variable {P : Program} {F F' : Fr} {h : AW}

def present (F : Fr) : List Operand → Bool
  | [] => true
  | .tmp t :: l => (F.t.get? t).isSome && present F l
  | _ :: l => present F l

/-- What F holds, F' holds too. -/
structure Sub (F F' : Fr) : Prop where
  n : F.n = F'.n
  t : ∀ (t : Nat) (v : Value), F.t.get? t = some v → F'.t.get? t = some v

theorem Sub.refl (F : Fr) : Sub F F := ⟨rfl, fun _ _ h => h⟩
theorem Sub.get (S : Sub F F') {t : Nat} (h : (F.t.get? t).isSome = true) : F'.t.get? t = F.t.get? t := by
  cases e : F.t.get? t with
  | none => rw [e] at h; cases h
  | some v => exact S.t t v e
theorem ev_all (S : Sub F F') : ∀ {l : List Operand}, present F l = true → ∀ x, x ∈ l → F'.ev x = F.ev x
  | [], _, x, hx => by cases hx
  | y :: l, hp, x, hx => by
    have hl : present F l = true := by
      cases y <;> simp [present] at hp <;> first | exact hp.2 | exact hp
    rcases List.mem_cons.1 hx with rfl | hm
    · cases x with
      | tmp t =>
        simp [present] at hp
        simp only [Fr.ev, S.get hp.1]
      | const v => rfl
      | global g => rfl
      | func f => rfl
    · exact ev_all S hl x hm
theorem vals_sub {l : Array Operand} (H : ∀ x, x ∈ l.toList → F'.ev x = F.ev x) : vals F' l = vals F l := by
  unfold vals
  exact List.map_congr_left H
theorem parts_sub {l : Array (Nat × Operand)} (H : ∀ p, p ∈ l.toList → F'.ev p.2 = F.ev p.2) : l.toList.map (fun p => (p.1, F'.ev p.2)) = l.toList.map (fun p => (p.1, F.ev p.2)) :=
  List.map_congr_left fun p hp => by rw [H p hp]
theorem optmap_sub {x : Option Operand} (H : ∀ y, x = some y → F'.ev y = F.ev y) : x.map F'.ev = x.map F.ev := by
  cases x with
  | none => rfl
  | some y => simp [H y rfl]

theorem opV_sub {o : Op} (H : ∀ x, x ∈ o.operands.toList → F'.ev x = F.ev x) : opV P F' h o = opV P F h o := by
  cases o with
  | move x => simp only [opV, opQ, H x (by simp [Op.operands])]
  | assign x => simp only [opV, opQ, H x (by simp [Op.operands])]
  | pick c a b => simp only [opV, opQ, opA, H c (by simp [Op.operands]), H a (by simp [Op.operands]), H b (by simp [Op.operands])]
  | alloc t => rfl
  | box t x => simp only [opV, opQ, opA, H x (by simp [Op.operands])]
  | build t ps => simp only [opV, opQ, opA, parts_sub (F := F) (F' := F') (l := ps) fun p hp => H p.2 (by simp only [Op.operands]; simpa using ⟨p.1, by simpa using hp⟩)]
  | buildSlice t n ps => simp only [opV, opQ, opA, parts_sub (F := F) (F' := F') (l := ps) fun p hp => H p.2 (by simp only [Op.operands]; simpa using ⟨p.1, by simpa using hp⟩)]
  | insert t m k v => simp only [opV, opQ, opA, H m (by simp [Op.operands]), H k (by simp [Op.operands]), H v (by simp [Op.operands])]
  | load t x => simp only [opV, opQ, opA, H x (by simp [Op.operands])]
  | store t a x => simp only [opV, opQ, opA, H a (by simp [Op.operands]), H x (by simp [Op.operands])]
  | nilCheck x => simp only [opV, opQ, opA, H x (by simp [Op.operands])]
  | binOp op t x y ty => simp only [opV, opQ, opA, H x (by simp [Op.operands]), H y (by simp [Op.operands])]
  | unOp op t x => simp only [opV, opQ, opA, H x (by simp [Op.operands])]
  | convert s d x => simp only [opV, opQ, opA, H x (by simp [Op.operands])]
  | makeInterface t x => simp only [opV, opQ, opA, H x (by simp [Op.operands])]
  | makeFunc fn a b =>
    simp only [opV, opQ]
    rw [vals_sub (l := a) fun x hx => H x (by simp only [Op.operands]; simp at hx ⊢; exact .inl hx), vals_sub (l := b) fun x hx => H x (by simp only [Op.operands]; simp at hx ⊢; exact .inr hx)]
  | makeMap t r =>
    cases r with
    | none => rfl
    | some x => simp only [opV, opQ, opA, H x (by simp [Op.operands])]
  | makeSlice t a b => simp only [opV, opQ, opA, H a (by simp [Op.operands]), H b (by simp [Op.operands])]
  | slice t x lo hi mx =>
    have h1 := H x (by simp [Op.operands])
    have h2 := optmap_sub (F := F) (F' := F') (x := lo) fun y hy => H y (by subst hy; simp [Op.operands])
    have h3 := optmap_sub (F := F) (F' := F') (x := hi) fun y hy => H y (by subst hy; simp [Op.operands])
    cases mx with
    | none => simp only [opV, opQ, opA, h1, h2, h3]
    | some m => simp only [opV, opQ, opA, h1, h2, h3, H m (by simp [Op.operands])]
  | fieldAddr t x f => simp only [opV, opQ, opA, H x (by simp [Op.operands])]
  | field t x f => simp only [opV, opQ, opA, H x (by simp [Op.operands])]
  | indexAddr t x i => simp only [opV, opQ, opA, H x (by simp [Op.operands]), H i (by simp [Op.operands])]
  | index t x i => simp only [opV, opQ, opA, H x (by simp [Op.operands]), H i (by simp [Op.operands])]
  | lookup t x i ok => simp only [opV, opQ, opA, H x (by simp [Op.operands]), H i (by simp [Op.operands])]
  | mapUpdate t m k v => simp only [opV, opQ, opA, H m (by simp [Op.operands]), H k (by simp [Op.operands]), H v (by simp [Op.operands])]
  | extract x i => simp only [opV, opQ, opA, H x (by simp [Op.operands])]
  | call c =>
    obtain ⟨cal, args, ats⟩ := c
    cases cal with
    | builtin b =>
      simp only [opV, opQ, opA]
      rw [vals_sub (l := args) fun x hx => H x (by simp [Op.operands, Call.operands]; simpa using hx)]
    | value f => rfl
    | invoke r m => rfl
  | _ => rfl

theorem target_sub {f : Operand} {args : Array Operand} {ats : Array TypeId} (H : ∀ x, x ∈ (Op.call { callee := .value f, args, argTypes := ats }).operands.toList → F'.ev x = F.ev x) :
    target F' { callee := .value f, args, argTypes := ats } = target F { callee := .value f, args, argTypes := ats } := by
  unfold target
  simp only
  rw [H f (by simp [Op.operands, Call.operands]), vals_sub (l := args) fun x hx => H x (by simp [Op.operands, Call.operands]; exact .inr (by simpa using hx))]

theorem put_sub (S : Sub F F') {d : Option Tmp} {v : Value} {F1 : Fr} (hp : F.put d v = some F1) : ∃ F1', F'.put d v = some F1' ∧ Sub F1 F1' := by
  unfold Fr.put at hp ⊢
  cases d with
  | none => simp only at hp ⊢; cases hp; exact ⟨F', rfl, S⟩
  | some d =>
    simp only at hp ⊢
    rw [← S.n]
    split at hp
    · rename_i hb
      cases hp
      refine ⟨_, rfl, rfl, fun t w hw => ?_⟩
      simp only at hw ⊢
      rw [T.get?_set] at hw ⊢
      split
      · rename_i e; rw [if_pos e] at hw; exact hw
      · rename_i e; rw [if_neg e] at hw; exact S.t t w hw
    · cases hp
end Go.Abs
end

section
/- Walks, fifth part: regions and code. -/
namespace Go.Abs

section
variable (P : Program)

/-- The call of f comes to something of which Q holds. -/
def EvQ (f : FuncId) (args : List Value) (h : AW) (Q : Value → AW → Prop) : Prop := ∃ v h', Evals P f args h v h' ∧ Q v h'
theorem EvQ.mono {P : Program} {f : FuncId} {args : List Value} {h : AW} {Q Q' : Value → AW → Prop} (H : EvQ P f args h Q) (hq : ∀ v h', Q v h' → Q' v h') : EvQ P f args h Q' := by
  obtain ⟨v, h', e, q⟩ := H
  exact ⟨v, h', e, hq v h' q⟩

def castO (t : TypeId) (v : Value) (K : Value → Prop) : Prop :=
  match P.underlying t with
  | some (.tuple es) => match es.toList with
    | [] => K v
    | ts => vTup v fun l => castR.go P ts l fun l => K (.tuple ⟨l⟩)
  | some .invalid => K v
  | some _ => castT P t v K
  | none => K v

def kOp (o : Op) (t : TypeId) (F : Fr) (h : AW) (K : Value → AW → Prop) : Prop :=
  match o with
  | .call { callee := .value f, args, argTypes := _ } => vFun (F.ev f) fun g first captured => EvQ P g (first ++ (vals F args ++ captured)) h fun v h => castO P t v fun v => K v h
  | .defer c => match deferB P F c with
    | true => K undef h
    | false => False
  | o => kA P o F h K

def kPut (F : Fr) (d : Option Tmp) (v : Value) (K : Fr → Prop) : Prop := match F.put d v with | some F => K F | none => False
def setB (F : Fr) (t : Nat) (b : Bool) : Fr := ⟨F.n, F.t.set t (.bool b)⟩

def kGuard (ops : List Oper) (F : Fr) (g : Option (Nat × Bool)) (yes no : Fr → Prop) : Prop :=
  match g with
  | none => yes F
  | some (j, want) => match ops[j]? with
    | some oj => match oj.dst with
      | some d => match F.t.get? d with
        | some v => (match v with
          | .tuple _ => no F
          | v => vBool v fun b => bC b (match want with | true => yes (setB F d true) | false => no (setB F d true)) (match want with | false => yes (setB F d false) | true => no (setB F d false)))
        | none => False
      | none => False
    | none => False

def kOps (ops : List Oper) : List Oper → Fr → AW → (Fr → AW → Prop) → Prop
  | [], F, h, K => K F h
  | o :: l, F, h, K => kGuard ops F o.guard
      (fun F => match present F o.op.operands.toList with
        | true => kOp P o.op o.type F h fun v h => kPut F o.dst v fun F => kOps ops l F h K
        | false => False)
      (fun F => kPut F o.dst undef fun F => kOps ops l F h K)

/-! Stacks: what stands behind a piece of code. -/
inductive Item where
  | seq (c : Code)
  | block (id : Nat)
  | loop (b : Code)

def finV (fn : Func) (F : Fr) (h : AW) : Option Value :=
  match resultL P F h fn.results.toList with
  | some [v] => some v
  | some vs => some (.tuple ⟨vs⟩)
  | none => none

def RestS (fn : Func) (Q : Value → AW → Prop) : List Item → Ex → Fr → AW → Prop
  | [], e, F, h => (∀ j, e ≠ .exit j) ∧ ∃ v, finV P fn F h = some v ∧ Q v h
  | .seq c :: st, e, F, h => match e with
    | .normal => ∃ e F' h', Runs P c F h e F' h' ∧ RestS fn Q st e F' h'
    | e => RestS fn Q st e F h
  | .block id :: st, e, F, h => RestS fn Q st (outOf id e) F h
  | .loop b :: st, e, F, h => match e with
    | .normal => ∃ e F' h', Runs P (.loop b) F h e F' h' ∧ RestS fn Q st e F' h'
    | e => RestS fn Q st e F h
def RestC (fn : Func) (Q : Value → AW → Prop) (c : Code) (st : List Item) (F : Fr) (h : AW) : Prop :=
  ∃ e F' h', Runs P c F h e F' h' ∧ RestS P fn Q st e F' h'

/-- From a place on, whatever else the frame holds. -/
def U (fn : Func) (c : Code) (st : List Item) (L : List Nat) (vs : List Value) (h : AW) (Q : Value → AW → Prop) : Prop :=
  ∀ F : Fr, F.n = fn.ntmps → (∀ (j t : Nat), L[j]? = some t → F.t.get? t = vs[j]?) → RestC P fn Q c st F h

def getAll (F : Fr) : List Nat → Option (List Value)
  | [] => some []
  | t :: l => match F.t.get? t, getAll F l with | some v, some r => some (v :: r) | _, _ => none

def kRes (F : Fr) (h : AW) (l : List ResultVar) (K : List Value → Prop) : Prop :=
  match l with
  | [] => K []
  | .tmp t :: l => match F.t.get? t with
    | some v => kRes F h l fun r => K (v :: r)
    | none => False
  | .cell a t :: l => match F.t.get? a with
    | some p => kLoad P h t p fun v => kRes F h l fun r => K (v :: r)
    | none => False
def kRet (fn : Func) (Q : Value → AW → Prop) (F : Fr) (h : AW) : Prop :=
  kRes P F h fn.results.toList fun vs => match vs with | [v] => Q v h | vs => Q (.tuple ⟨vs⟩) h

/-- Drawn regions: what a quiet operation says must not hang on the place at which it is drawn. -/
def reflV : Value → Bool
  | .agg cs => go cs.toList
  | v => base v
  where
  base : Value → Bool
    | .bool _ | .int _ _ | .string _ | .pointer _ | .slice _ _ _ | .map _ | .nilFunc | .nilIface => true
    | _ => false
  go : List Value → Bool
    | [] => true
    | v :: l => base v && go l
/-- What may stand in an interface that is read twice. -/
def ifcB (v : Value) : Bool := reflV.base v
def chkOk : Op → Bool
  | .load .. | .lookup .. | .slice _ _ _ _ none => true
  | .call { callee := .builtin b, args := _, argTypes := _ } => match b with | .len | .cap | .min | .max | .unsafeSliceData => true | _ => false
  | _ => false
def kChk (o : Op) (F : Fr) (h : AW) (v : Value) (K : Prop) : Prop :=
  match v with
  | .iface t x => (match chkOk o with
    | true => ifcB x = true ∧ kA P o F h fun v' _ => v' = .iface t x ∧ K
    | false => False)
  | v => match chkOk o && reflV v with
    | true => kA P o F h fun v' _ => v' = v ∧ K
    | false => False
def kFrom (M : List Nat) (j : Nat) (chk : AW → Prop → Prop) (own : Nat) : Nat → AW → List (Nat × AW) → Prop → Prop
  | cur, h, [], K => match Nat.beq cur own with | true => K | false => chk h K
  | cur, h, (i, h') :: l, K => match Nat.beq cur own || !noneBef M j ((i, h') :: l) with
    | true => (match bef M j i with | true => K | false => kFrom M j chk own (cur + 1) h' l K)
    | false => chk h (match bef M j i with | true => K | false => kFrom M j chk own (cur + 1) h' l K)
def kSt (M : List Nat) (h : AW) (As : List (Nat × AW)) (own j : Nat) (s : St) (K : Prop) : Prop :=
  match s.act, s.want with
  | none, true => match looks s.o.op with
    | true => kFrom M j (fun h K => kChk P s.o.op s.F h s.v K) own 0 h As K
    | false => K
  | _, _ => K
def kSts (M : List Nat) (h : AW) (As : List (Nat × AW)) : Nat → Nat → List St → Prop → Prop
  | _, _, [], K => K
  | own, j, s :: l, K => kSt P M h As own j s (kSts M h As (match s.act with | some _ => own + 1 | none => own) (j + 1) l K)

/-- Is it an operation of the kind that turns the heap? -/
def actish2 : Op → Bool
  | .alloc _ | .box .. | .buildSlice .. | .store .. | .makeMap .. | .makeSlice .. | .slice _ _ _ _ (some _) | .mapUpdate .. | .insert .. => true
  | .call { callee := .builtin b, args := _, argTypes := _ } => match b with | .len | .cap | .min | .max | .unsafeSliceData => false | _ => true
  | .call _ => true
  | _ => false
def quietish : Op → Bool
  | .convert .. => false
  | .defer _ => false
  | o => !actish2 o

def kTr (ops : List Oper) : List Oper → Fr → AW → List St → (List St → Fr → AW → Prop) → Prop
  | [], F, h, tr, K => K tr F h
  | o :: l, F, h, tr, K => kGuard ops F o.guard
      (fun F => match present F o.op.operands.toList with
        | true => match actish2 o.op with
          | true => kOp P o.op o.type F h fun v h' => kPut F o.dst v fun F' => kTr ops l F' h' (tr ++ [⟨o, F, h, true, some h', v⟩]) K
          | false => match quietish o.op with
            | true => kOp P o.op o.type F h fun v h' => kPut F o.dst v fun F' => kTr ops l F' h (tr ++ [⟨o, F, h, true, none, v⟩]) K
            | false => False
        | false => False)
      (fun F => kPut F o.dst undef fun F' => kTr ops l F' h (tr ++ [⟨o, F, h, false, none, undef⟩]) K)
def kDrawn (ops : List Oper) (F : Fr) (h : AW) (K : Fr → AW → Prop) : Prop :=
  match staticOk ops with
  | true => kTr P ops ops F h [] fun tr F' h' => match orderedOk ops (masks ops []) (acts 0 tr) with
    | true => kSts P (masks ops []) h (acts 0 tr) 0 0 tr (K F' h')
    | false => False
  | false => False
def kRegion (ops : List Oper) (draw : Bool) (F : Fr) (h : AW) (K : Fr → AW → Prop) : Prop :=
  match draw with
  | false => kOps P ops ops F h K
  | true => kDrawn P ops F h K

variable (fn : Func) (ann : Nat → Option (List Nat)) (Q : Value → AW → Prop)

def kPop (go : Code → List Item → Fr → AW → Prop) : List Item → Fr → AW → Prop
  | [], F, h => kRet P fn Q F h
  | .seq c :: st, F, h => go c st F h
  | .block _ :: st, F, h => kPop go st F h
  | .loop b :: st, F, h => go b (.loop b :: st) F h
def kExit (go : Code → List Item → Fr → AW → Prop) (id : Nat) : List Item → Fr → AW → Prop
  | [], _, _ => False
  | .block j :: st, F, h => match Nat.beq id j with
    | true => kPop P fn Q go st F h
    | false => kExit go id st F h
  | _ :: st, F, h => kExit go id st F h

def kCond (F : Fr) (x : Operand) (yes no : Fr → Prop) : Prop :=
  match x with
  | .tmp t => match F.t.get? t with
    | some v => vBool v fun b => bC b (yes (setB F t true)) (no (setB F t false))
    | none => False
  | .const v => vBool v fun b => bC b (yes F) (no F)
  | _ => False

def kRun : Nat → Code → List Item → Fr → AW → Prop
  | 0, _, _, _, _ => False
  | n + 1, c, st, F, h =>
    match c with
    | .skip => kPop P fn Q (kRun n) st F h
    | .label _ => kPop P fn Q (kRun n) st F h
    | .region id ops draw => match ann id with
      | some L => match getAll F L, Nat.beq F.n fn.ntmps with
        | some vs, true => U P fn (.region id ops draw) st L vs h Q
        | _, _ => False
      | none => kRegion P ops.toList draw F h fun F h => kPop P fn Q (kRun n) st F h
    | .seq a b => kRun n a (.seq b :: st) F h
    | .cond x a b => kCond F x (fun F => kRun n a st F h) (fun F => kRun n b st F h)
    | .block id b => kRun n b (.block id :: st) F h
    | .loop b => kRun n b (.loop b :: st) F h
    | .scope b => kRun n b st F h
    | .exit id => kExit P fn Q (kRun n) id st F h
    | .ret => kRet P fn Q F h
    | _ => False

def frOf (n : Nat) : List Nat → List Value → T Value → Fr
  | t :: L, v :: vs, T => frOf n L vs (T.set t v)
  | _, _, T => ⟨n, T⟩

/-- The place of a region in a function's code. -/
def locate (id : Nat) : Code → List Item → Option (Code × List Item)
  | .region i ops d, st => match Nat.beq i id with | true => some (.region i ops d, st) | false => none
  | .seq a b, st => match locate id a (.seq b :: st) with
    | some r => some r
    | none => locate id b st
  | .cond _ a b, st => match locate id a st with
    | some r => some r
    | none => locate id b st
  | .block j b, st => locate id b (.block j :: st)
  | .loop b, st => locate id b (.loop b :: st)
  | .scope b, st => locate id b st
  | _, _ => none

/-- From a region of a function on. -/
def unitAt (f id : Nat) (L : List Nat) (vs : List Value) (h : AW) (Q : Value → AW → Prop) : Prop :=
  match bodyOf P f with
  | some (fn, c) => match locate id c [] with
    | some (c, st) => U P fn c st L vs h Q
    | none => False
  | none => False
def kUnit (f id n : Nat) (ann : Nat → Option (List Nat)) (L : List Nat) (vs : List Value) (h : AW) (Q : Value → AW → Prop) : Prop :=
  match bodyOf P f with
  | some (fn, c) => match locate id c [] with
    | some (.region _ ops d, st) => match Nat.beq L.length vs.length with
      | true => kRegion P ops.toList d (frOf fn.ntmps L vs .nil) h fun F h => kPop P fn Q (kRun P fn ann Q n) st F h
      | false => False
    | _ => False
  | none => False
def kFn (f n : Nat) (ann : Nat → Option (List Nat)) (args : List Value) (h : AW) (Q : Value → AW → Prop) : Prop :=
  match bodyOf P f with
  | some (fn, c) => match Nat.ble args.length fn.ntmps with
    | true => kRun P fn ann Q n c [] ⟨fn.ntmps, T.ofList args⟩ h
    | false => False
  | none => False
end
end Go.Abs
end

section
/- Walks, sixth part: regions and code are right. -/
namespace Go.Abs
variable {P : Program} {F F' : Fr} {h : AW}

theorem castO_ok {t : TypeId} {v : Value} {K : Value → Prop} (H : castO P t v K) : K v := by
  unfold castO at H
  split at H
  · split at H
    · exact H
    · obtain ⟨cs, rfl, H⟩ := vTup_ok H
      exact castRgo_ok H
  · exact H
  · exact castT_ok H
  · exact H

/-- The middle of a step. -/
def Mid (P : Program) (n : Nat) (o : Op) (F : Fr) (h : AW) : Option (Value × AW) :=
  match o with
  | .call { callee := .value f, args, argTypes } => match target F { callee := .value f, args, argTypes } with
    | some (f, args) => callF P n f args h
    | none => none
  | op => opD P F h op

theorem opV_call {f : Operand} {args : Array Operand} {ats : Array TypeId} : opV P F h (.call { callee := .value f, args, argTypes := ats }) = none := rfl
theorem opV_defer {c : Call} : opV P F h (.defer c) = none := rfl
theorem opD_opV {o : Op} {r : Value × AW} (e : opV P F h o = some r) : opD P F h o = some r := by
  unfold opD
  split
  · rw [opV_defer] at e; cases e
  · exact e
theorem mid_opV {o : Op} {n : Nat} {r : Value × AW} (e : opV P F h o = some r) : Mid P n o F h = some r := by
  unfold Mid
  split
  · rw [opV_call] at e; cases e
  · exact opD_opV e
theorem deferB_sub {c : Call} (H : ∀ x, x ∈ (Op.defer c).operands.toList → F'.ev x = F.ev x) : deferB P F' c = deferB P F c := by
  unfold deferB
  split
  · rename_i f hcal
    rw [H f (by simp [Op.operands, Call.operands, hcal])]
  · rfl
theorem opD_sub {o : Op} (H : ∀ x, x ∈ o.operands.toList → F'.ev x = F.ev x) : opD P F' h o = opD P F h o := by
  unfold opD
  split
  · rw [deferB_sub H]
  · exact opV_sub H
theorem kOp_ok {o : Op} {t : TypeId} {K : Value → AW → Prop} (H : kOp P o t F h K) : ∃ v h', (∃ n, Mid P n o F h = some (v, h')) ∧ K v h' := by
  unfold kOp at H
  split at H
  · rename_i f args ats
    have H' := vFun_ok H; clear H; obtain ⟨g, a, b, e, v, h', ⟨n, ev⟩, H⟩ := H'
    refine ⟨v, h', ⟨n, ?_⟩, castO_ok H⟩
    unfold Mid target
    simp only [e]
    exact ev
  · rename_i c
    split at H
    · rename_i hd
      refine ⟨undef, h, ⟨0, ?_⟩, H⟩
      unfold Mid opD
      simp only [hd]
    · exact H.elim
  · have H' := kA_ok H; clear H; obtain ⟨v, h', e, H⟩ := H'
    exact ⟨v, h', ⟨0, mid_opV e⟩, H⟩
theorem mid_sub {o : Op} {n : Nat} (H : ∀ x, x ∈ o.operands.toList → F'.ev x = F.ev x) : Mid P n o F' h = Mid P n o F h := by
  unfold Mid
  split
  · rw [target_sub H]
  · exact opD_sub H
theorem mid_mono {o : Op} {n m : Nat} (hnm : n ≤ m) {r : Value × AW} (e : Mid P n o F h = some r) : Mid P m o F h = some r := by
  unfold Mid at e ⊢
  split at e
  · split at e
    · rename_i ht
      exact callF_mono hnm _ _ _ _ e
    · cases e
  · exact e
theorem step_mid {ops : List Oper} {o : Oper} {n : Nat} {v : Value} {h' : AW} {F1 : Fr} (hg : guardOk ops F o = some true) (e : Mid P n o.op F h = some (v, h')) (hp : F.put o.dst v = some F1) : stepOp P (callF P n) ops o F h = some (F1, h') := by
  unfold stepOp
  rw [hg]
  simp only
  unfold Mid at e
  split at e
  · rename_i f args ats hop
    rw [hop]
    simp only
    split at e
    · rename_i ht
      rw [ht]; simp only; rw [e]; simp only; rw [hp]
    · cases e
  · rename_i hop
    split
    · rename_i v1 h1 hx
      split at hx
      · rename_i f args ats ho; exact (hop _ _ _ ho).elim
      · rw [e] at hx; cases hx; rw [hp]
    · rename_i hx
      split at hx
      · rename_i f args ats ho; exact (hop _ _ _ ho).elim
      · rw [e] at hx; cases hx
theorem step_skip {ops : List Oper} {o : Oper} {n : Nat} {F1 : Fr} (hg : guardOk ops F o = some false) (hp : F.put o.dst undef = some F1) : stepOp P (callF P n) ops o F h = some (F1, h) := by
  unfold stepOp
  rw [hg]
  simp only
  rw [hp]

theorem kPut_ok {d : Option Tmp} {v : Value} {K : Fr → Prop} (H : kPut F d v K) : ∃ F1, F.put d v = some F1 ∧ K F1 := by
  unfold kPut at H
  split at H
  · rename_i F1 e; exact ⟨F1, e, H⟩
  · exact H.elim
theorem setB_sub (S : Sub F F') {t : Nat} {b : Bool} (e : F'.t.get? t = some (.bool b)) : Sub (setB F t b) F' := by
  refine ⟨S.n, fun t' v hv => ?_⟩
  simp only [setB] at hv
  rw [T.get?_set] at hv
  split at hv
  · rename_i e'; subst e'; cases hv; exact e
  · exact S.t t' v hv
theorem kGuard_ok {ops : List Oper} {o : Oper} {yes no : Fr → Prop} (H : kGuard ops F o.guard yes no) (S : Sub F F') :
    ∃ F2, Sub F2 F' ∧ ((guardOk ops F' o = some true ∧ yes F2) ∨ (guardOk ops F' o = some false ∧ no F2)) := by
  unfold kGuard at H
  unfold guardOk
  split at H
  · rename_i hg
    exact ⟨F, S, .inl ⟨by rw [hg], H⟩⟩
  · rename_i j want hg
    rw [hg]; simp only
    split at H
    · rename_i oj hj
      rw [hj]; simp only
      split at H
      · rename_i d hd
        rw [hd]; simp only
        split at H
        · rename_i v hv
          have hv' := S.t d v hv
          rw [hv']
          split at H
          · exact ⟨F, S, .inr ⟨rfl, H⟩⟩
          · obtain ⟨b, rfl, H⟩ := vBool_ok H
            rcases bC_ok H with ⟨rfl, H⟩ | ⟨rfl, H⟩
            · refine ⟨_, setB_sub S hv', ?_⟩
              cases want with
              | true => exact .inl ⟨rfl, H⟩
              | false => exact .inr ⟨rfl, H⟩
            · refine ⟨_, setB_sub S hv', ?_⟩
              cases want with
              | true => exact .inr ⟨rfl, H⟩
              | false => exact .inl ⟨rfl, H⟩
        · exact H.elim
      · exact H.elim
    · exact H.elim

theorem kOps_ok {ops : List Oper} : ∀ {l : List Oper} {F F' : Fr} {h : AW} {K : Fr → AW → Prop}, kOps P ops l F h K → Sub F F' → ∃ F1 F1' h1, Opss P ops l F' h F1' h1 ∧ Sub F1 F1' ∧ K F1 h1
  | [], F, F', h, K, H, S => ⟨F, F', h, Opss.nil, S, H⟩
  | o :: l, F, F', h, K, H, S => by
    simp only [kOps] at H
    obtain ⟨F2, S2, ⟨hg, H⟩ | ⟨hg, H⟩⟩ := kGuard_ok H S
    · split at H
      · rename_i hp
        obtain ⟨v, h', ⟨n, e⟩, H⟩ := kOp_ok H
        obtain ⟨F3, e3, H⟩ := kPut_ok H
        obtain ⟨F3', e3', S3⟩ := put_sub S2 e3
        obtain ⟨F1, F1', h1, a, b, c⟩ := kOps_ok H S3
        refine ⟨F1, F1', h1, Opss.cons ⟨n, step_mid hg ?_ e3'⟩ a, b, c⟩
        rw [mid_sub (ev_all S2 hp)]; exact e
      · exact H.elim
    · obtain ⟨F3, e3, H⟩ := kPut_ok H
      obtain ⟨F3', e3', S3⟩ := put_sub S2 e3
      obtain ⟨F1, F1', h1, a, b, c⟩ := kOps_ok H S3
      exact ⟨F1, F1', h1, Opss.cons ⟨0, step_skip hg e3'⟩ a, b, c⟩

/-! Drawn regions. -/
theorem actish2_none {o : Op} (ho : actish2 o = true) : opQ P F h o = none := by
  cases o <;> first | rfl | (simp [actish2] at ho; done) | skip
  · rename_i t x lo hi mx
    cases mx with
    | none => simp [actish2] at ho
    | some m => rfl
  · rename_i c
    obtain ⟨cal, args, ats⟩ := c
    cases cal with
    | builtin b => cases b <;> first | rfl | (simp [actish2] at ho; done)
    | _ => rfl
theorem quietish_none {o : Op} (ho : quietish o = true) : opA P F h o = none := by
  cases o <;> first | rfl | (simp [quietish, actish2] at ho; done) | skip
  · rename_i t x lo hi mx
    cases mx with
    | none => rfl
    | some m => simp [quietish, actish2] at ho
  · rename_i c
    obtain ⟨cal, args, ats⟩ := c
    cases cal with
    | builtin b => cases b <;> first | rfl | (simp [quietish, actish2] at ho; done)
    | _ => simp [quietish, actish2] at ho
theorem opV_quiet {o : Op} (ho : quietish o = true) {v : Value} {h' : AW} (e : opV P F h o = some (v, h')) : opQ P F h o = some v ∧ h' = h := by
  unfold opV at e
  split at e
  · rename_i v' hq; cases e; exact ⟨hq, rfl⟩
  · rw [quietish_none ho] at e; cases e
theorem chkOk_quiet {o : Op} (ho : chkOk o = true) : quietish o = true := by
  cases o <;> first | rfl | (simp [chkOk] at ho; done) | skip
  · rename_i t x lo hi mx
    cases mx with
    | none => rfl
    | some m => simp [chkOk] at ho
  · rename_i c
    obtain ⟨cal, args, ats⟩ := c
    cases cal with
    | builtin b => cases b <;> first | rfl | (simp [chkOk] at ho; done)
    | _ => simp [chkOk] at ho
theorem opD_no {o : Op} (ho : ∀ c, o ≠ .defer c) : opD P F h o = opV P F h o := by
  unfold opD
  split
  · rename_i c; exact absurd rfl (ho c)
  · rfl
theorem mid_quiet {o : Op} {n : Nat} (ho : quietish o = true) {v : Value} {h' : AW} (e : Mid P n o F h = some (v, h')) : opQ P F h o = some v ∧ h' = h := by
  unfold Mid at e
  split at e
  · simp [quietish, actish2] at ho
  · rw [opD_no (fun c hc => by rw [hc] at ho; simp [quietish, actish2] at ho)] at e
    exact opV_quiet ho e
theorem mid_act {o : Oper} {n : Nat} (ho : actish2 o.op = true) {r : Value × AW} (e : Mid P n o.op F h = some r) : actV P (callF P n) F h o = some r := by
  unfold Mid at e
  unfold actV
  split at e
  · rename_i f args ats hop; rw [hop]; simp only; exact e
  · rename_i hop
    rw [opD_no (fun c hc => by rw [hc] at ho; simp [actish2] at ho)] at e
    unfold opV at e
    rw [actish2_none ho] at e
    simp only at e
    split
    · rename_i f args ats ho'; exact (hop _ _ _ ho').elim
    · exact e

structure StR (P : Program) (s s' : St) : Prop where
  o : s'.o = s.o
  sub : Sub s.F s'.F
  h : s'.h = s.h
  want : s'.want = s.want
  act : s'.act = s.act
  v : s'.v = s.v
  pres : s.want = true → present s.F s.o.op.operands.toList = true
inductive TrR (P : Program) : List St → List St → Prop where
  | nil : TrR P [] []
  | cons {s s' : St} {l l' : List St} : StR P s s' → TrR P l l' → TrR P (s :: l) (s' :: l')

theorem kTr_ok {ops : List Oper} : ∀ {l : List Oper} {F F' : Fr} {h : AW} {tr0 : List St} {K : List St → Fr → AW → Prop}, kTr P ops l F h tr0 K → Sub F F' →
    ∃ n tr tr' F1 F1' h1, traceOps P (callF P n) ops l F' h = some (tr', F1', h1) ∧ runOps P (callF P n) ops l F' h = some (F1', h1) ∧ TrR P tr tr' ∧ Sub F1 F1' ∧ K (tr0 ++ tr) F1 h1
  | [], F, F', h, tr0, K, H, S => ⟨0, [], [], F, F', h, rfl, rfl, .nil, S, by simpa [kTr] using H⟩
  | o :: l, F, F', h, tr0, K, H, S => by
    simp only [kTr] at H
    obtain ⟨F2, S2, ⟨hg, H⟩ | ⟨hg, H⟩⟩ := kGuard_ok H S
    · split at H
      · rename_i hp
        split at H
        · rename_i ha
          obtain ⟨v, h', ⟨n, e⟩, H⟩ := kOp_ok H
          obtain ⟨F3, e3, H⟩ := kPut_ok H
          obtain ⟨F3', e3', S3⟩ := put_sub S2 e3
          obtain ⟨m, tr, tr', F1, F1', h1, a, b, c, d, k⟩ := kTr_ok H S3
          rw [← mid_sub (ev_all S2 hp)] at e
          have e' := mid_mono (Nat.le_max_left n m) e
          refine ⟨Nat.max n m, _ :: tr, _ :: tr', F1, F1', h1, ?_, ?_, .cons (s := ⟨o, F2, h, true, some h', v⟩) (s' := ⟨o, F', h, true, some h', v⟩) ⟨rfl, S2, rfl, rfl, rfl, rfl, fun _ => hp⟩ c, d, by simpa using k⟩
          · simp only [traceOps]
            rw [hg]; simp only
            rw [actish2_none ha]; simp only
            rw [mid_act ha e']; simp only
            rw [e3']; simp only
            rw [traceOps_mono (callF_mono (Nat.le_max_right n m)) a]
          · simp only [runOps]
            rw [step_mid hg e' e3']; simp only
            exact runOps_mono (callF_mono (Nat.le_max_right n m)) b
        · split at H
          · rename_i hq
            obtain ⟨v, h', ⟨n, e⟩, H⟩ := kOp_ok H
            obtain ⟨F3, e3, H⟩ := kPut_ok H
            obtain ⟨F3', e3', S3⟩ := put_sub S2 e3
            obtain ⟨m, tr, tr', F1, F1', h1, a, b, c, d, k⟩ := kTr_ok H S3
            rw [← mid_sub (ev_all S2 hp)] at e
            have e' := mid_mono (Nat.le_max_left n m) e
            obtain ⟨q, rfl⟩ := mid_quiet hq e
            refine ⟨Nat.max n m, _ :: tr, _ :: tr', F1, F1', h1, ?_, ?_, .cons (s := ⟨o, F2, h', true, none, v⟩) (s' := ⟨o, F', h', true, none, v⟩) ⟨rfl, S2, rfl, rfl, rfl, rfl, fun _ => hp⟩ c, d, by simpa using k⟩
            · simp only [traceOps]
              rw [hg]; simp only
              rw [q]; simp only
              rw [e3']; simp only
              rw [traceOps_mono (callF_mono (Nat.le_max_right n m)) a]
            · simp only [runOps]
              rw [step_mid hg e' e3']; simp only
              exact runOps_mono (callF_mono (Nat.le_max_right n m)) b
          · exact H.elim
      · exact H.elim
    · obtain ⟨F3, e3, H⟩ := kPut_ok H
      obtain ⟨F3', e3', S3⟩ := put_sub S2 e3
      obtain ⟨m, tr, tr', F1, F1', h1, a, b, c, d, k⟩ := kTr_ok H S3
      refine ⟨m, _ :: tr, _ :: tr', F1, F1', h1, ?_, ?_, .cons (s := ⟨o, F2, h, false, none, undef⟩) (s' := ⟨o, F', h, false, none, undef⟩) ⟨rfl, S2, rfl, rfl, rfl, rfl, fun e => (by cases e)⟩ c, d, by simpa using k⟩
      · simp only [traceOps]
        rw [hg]; simp only
        rw [e3']; simp only
        rw [a]
      · simp only [runOps]
        rw [step_skip hg e3']; simp only
        exact b

theorem acts_rel : ∀ {tr tr' : List St} {k : Nat}, TrR P tr tr' → acts k tr' = acts k tr
  | _, _, _, .nil => rfl
  | s :: tr, s' :: tr', k, .cons a b => by
    simp only [acts, a.act]
    cases s.act with
    | none => exact acts_rel b
    | some x => simp only; rw [acts_rel b]
theorem beqV_base {n : Nat} {v : Value} (hb : reflV.base v = true) : beqV n v v = true := by
  cases v <;> simp [reflV.base] at hb <;> simp [beqV] <;> first | done | (cases n <;> simp [beqV])
theorem beqV_goR {n : Nat} : ∀ {l : List Value}, reflV.go l = true → beqV.go n l l = true
  | [], _ => by simp [beqV.go]
  | v :: l, hb => by
    simp only [reflV.go, Bool.and_eq_true] at hb
    simp only [beqV.go, Bool.and_eq_true]
    exact ⟨beqV_base hb.1, beqV_goR hb.2⟩
theorem beqV_refl {v : Value} (hb : reflV v = true) : beqV 8 v v = true := by
  unfold reflV at hb
  split at hb
  · rw [beqV]; exact beqV_goR hb
  · exact beqV_base hb
theorem kFrom_ok {M : List Nat} {j own : Nat} {chk : AW → Prop → Prop} {check : AW → Bool} (hc : ∀ h K, chk h K → check h = true ∧ K) : ∀ {As : List (Nat × AW)} {cur : Nat} {h : AW} {K : Prop}, kFrom M j chk own cur h As K → chkFrom M j check own cur h As = true ∧ K
  | [], cur, h, K, H => by
    simp only [kFrom] at H
    simp only [chkFrom]
    split at H
    · rename_i e; rw [e]; exact ⟨rfl, H⟩
    · obtain ⟨a, b⟩ := hc _ _ H; rw [a]; exact ⟨by simp, b⟩
  | (i, h') :: l, cur, h, K, H => by
    simp only [kFrom] at H
    simp only [chkFrom]
    have rest : ∀ {G : Prop}, G = (match bef M j i with | true => K | false => kFrom M j chk own (cur + 1) h' l K) → G → (bef M j i || chkFrom M j check own (cur + 1) h' l) = true ∧ K := by
      intro G e g
      rw [e] at g
      split at g
      · rename_i e'; rw [e']; exact ⟨rfl, g⟩
      · obtain ⟨a, b⟩ := kFrom_ok hc g; rw [a]; exact ⟨by simp, b⟩
    split at H
    · rename_i e
      obtain ⟨a, b⟩ := rest rfl H
      rw [a]
      refine ⟨?_, b⟩
      rw [Bool.and_true, e, Bool.true_or]
    · obtain ⟨a, b⟩ := hc _ _ H
      obtain ⟨c, d⟩ := rest rfl b
      rw [a, c]
      exact ⟨by simp, d⟩
theorem kSt_ok {M : List Nat} {As : List (Nat × AW)} {own j : Nat} {s s' : St} {K : Prop} (R : StR P s s') (H : kSt P M h As own j s K) : stOk P M h As own j s' = true ∧ K := by
  unfold kSt at H
  unfold stOk
  rw [R.act, R.want, R.o, R.v]
  split at H
  · rename_i hact hw
    rw [hact, hw]
    simp only
    split at H
    · rename_i hl
      rw [hl]
      simp only [Bool.not_true, Bool.false_or]
      refine kFrom_ok (fun h K hk => ?_) H
      unfold kChk at hk
      split at hk
      · rename_i t x hv
        split at hk
        · rename_i hb
          obtain ⟨hx, hk⟩ := hk
          obtain ⟨v', h', e, rfl, k⟩ := kA_ok hk
          rw [← opV_sub (ev_all R.sub (R.pres hw))] at e
          obtain ⟨q, _⟩ := opV_quiet (chkOk_quiet hb) e
          rw [q]
          refine ⟨?_, k⟩
          simp only [hv, beqV]
          rw [Nat.beq_refl, beqV_base hx]
          rfl
        · exact hk.elim
      · split at hk
        · rename_i hb
          simp only [Bool.and_eq_true] at hb
          obtain ⟨v', h', e, rfl, k⟩ := kA_ok hk
          rw [← opV_sub (ev_all R.sub (R.pres hw))] at e
          obtain ⟨q, _⟩ := opV_quiet (chkOk_quiet hb.1) e
          rw [q]
          exact ⟨beqV_refl hb.2, k⟩
        · exact hk.elim
    · rename_i hl
      rw [hl]
      exact ⟨rfl, H⟩
  · rename_i hn
    refine ⟨?_, H⟩
    cases ha : s.act with
    | some x => rfl
    | none => cases hw : s.want with
      | false => rfl
      | true => exact (hn ha hw).elim
theorem kSts_ok {M : List Nat} {As : List (Nat × AW)} : ∀ {tr tr' : List St} {own j : Nat} {K : Prop}, TrR P tr tr' → kSts P M h As own j tr K → stsOk P M h As own j tr' = true ∧ K
  | _, _, own, j, K, .nil, H => ⟨rfl, H⟩
  | s :: tr, s' :: tr', own, j, K, .cons a b, H => by
    simp only [kSts] at H
    obtain ⟨h1, H⟩ := kSt_ok a H
    obtain ⟨h2, H⟩ := kSts_ok b H
    simp only [stsOk, Bool.and_eq_true]
    rw [a.act]
    exact ⟨⟨h1, h2⟩, H⟩
theorem kRegion_ok {id : Nat} {ops : Array Oper} {draw : Bool} {K : Fr → AW → Prop} (H : kRegion P ops.toList draw F h K) (S : Sub F F') : ∃ F1 F1' h1, Runs P (.region id ops draw) F' h .normal F1' h1 ∧ Sub F1 F1' ∧ K F1 h1 := by
  unfold kRegion at H
  split at H
  · obtain ⟨F1, F1', h1, a, b, c⟩ := kOps_ok H S
    exact ⟨F1, F1', h1, Runs.region a, b, c⟩
  · unfold kDrawn at H
    split at H
    · rename_i hs
      obtain ⟨n, tr, tr', F1, F1', h1, a, b, c, d, k⟩ := kTr_ok H S
      simp only [List.nil_append] at k
      split at k
      · rename_i hc
        obtain ⟨e, k⟩ := kSts_ok c k
        refine ⟨F1, F1', h1, ⟨n, 1, ?_⟩, d, k⟩
        simp only [run, runDrawn]
        rw [hs]; simp only
        rw [a]; simp only
        rw [acts_rel c, hc, e]
        rfl
      · exact k.elim
    · exact H.elim
end Go.Abs
end

section
/- Walks, seventh part: functions, and places in them. -/
namespace Go.Abs
variable {P : Program} {fn : Func} {ann : Nat → Option (List Nat)} {Q : Value → AW → Prop}

/-- Where a function's walk is cut, and what lives there. -/
def annOf : List (Nat × List Nat) → Nat → Option (List Nat)
  | [], _ => none
  | (i, l) :: r, j => match Nat.beq i j with | true => some l | false => annOf r j

theorem kRes_ok {F F' : Fr} {h : AW} (S : Sub F F') : ∀ {l : List ResultVar} {K : List Value → Prop}, kRes P F h l K → ∃ vs, resultL P F' h l = some vs ∧ K vs
  | [], K, H => ⟨[], rfl, H⟩
  | .tmp t :: l, K, H => by
    simp only [kRes] at H
    split at H
    · rename_i v hv
      obtain ⟨vs, e, k⟩ := kRes_ok S H
      refine ⟨v :: vs, ?_, k⟩
      simp only [resultL, resultV, S.t t v hv, e]
    · exact H.elim
  | .cell a t :: l, K, H => by
    simp only [kRes] at H
    split at H
    · rename_i p hp
      obtain ⟨v, e, H⟩ := kLoad_ok H
      obtain ⟨vs, e', k⟩ := kRes_ok S H
      refine ⟨v :: vs, ?_, k⟩
      simp only [resultL, resultV, S.t a p hp, e, e']
    · exact H.elim
theorem kRet_ok {F F' : Fr} {h : AW} (S : Sub F F') (H : kRet P fn Q F h) : ∃ v, finV P fn F' h = some v ∧ Q v h := by
  unfold kRet at H
  obtain ⟨vs, e, H⟩ := kRes_ok S H
  unfold finV
  rw [e]
  split at H
  · exact ⟨_, rfl, H⟩
  · rename_i hn
    refine ⟨_, ?_, H⟩
    match vs, hn with
    | [], _ => rfl
    | [v], hn => exact absurd rfl (hn v)
    | _ :: _ :: _, _ => rfl
theorem restS_ret {F : Fr} {h : AW} (H : ∃ v, finV P fn F h = some v ∧ Q v h) : ∀ (st : List Item), RestS P fn Q st .ret F h
  | [] => ⟨fun j e => (by cases e), H⟩
  | .seq c :: st => restS_ret H st
  | .block id :: st => restS_ret H st
  | .loop b :: st => restS_ret H st

theorem restC_seq {a b : Code} {st : List Item} {F : Fr} {h : AW} (H : RestC P fn Q a (.seq b :: st) F h) : RestC P fn Q (.seq a b) st F h := by
  obtain ⟨e, F1, h1, r, s⟩ := H
  cases e with
  | normal =>
    obtain ⟨e2, F2, h2, r2, s2⟩ := s
    exact ⟨e2, F2, h2, Runs.seq r r2, s2⟩
  | exit j => exact ⟨_, F1, h1, Runs.seq_out (fun e => by cases e) r, s⟩
  | ret => exact ⟨_, F1, h1, Runs.seq_out (fun e => by cases e) r, s⟩
theorem restC_loop {b : Code} {st : List Item} {F : Fr} {h : AW} (H : RestC P fn Q b (.loop b :: st) F h) : RestC P fn Q (.loop b) st F h := by
  obtain ⟨e, F1, h1, r, s⟩ := H
  cases e with
  | normal =>
    obtain ⟨e2, F2, h2, r2, s2⟩ := s
    exact ⟨e2, F2, h2, Runs.loop_on r r2, s2⟩
  | exit j => exact ⟨_, F1, h1, Runs.loop_out (fun e => by cases e) r, s⟩
  | ret => exact ⟨_, F1, h1, Runs.loop_out (fun e => by cases e) r, s⟩
theorem restC_block {id : Nat} {b : Code} {st : List Item} {F : Fr} {h : AW} (H : RestC P fn Q b (.block id :: st) F h) : RestC P fn Q (.block id b) st F h := by
  obtain ⟨e, F1, h1, r, s⟩ := H
  exact ⟨_, F1, h1, Runs.block r, s⟩

theorem kPop_ok {go : Code → List Item → Fr → AW → Prop} (hgo : ∀ c st F h, go c st F h → ∀ F', Sub F F' → RestC P fn Q c st F' h) {F F' : Fr} {h : AW} (S : Sub F F') (st : List Item) : kPop P fn Q go st F h → RestS P fn Q st .normal F' h := by
  induction st with
  | nil => exact fun H => ⟨fun j e => (by cases e), kRet_ok S H⟩
  | cons i st ih =>
    intro H
    cases i with
    | seq c => exact hgo _ _ _ _ H _ S
    | block j => exact ih H
    | loop b => exact restC_loop (hgo _ _ _ _ H _ S)
theorem kExit_ok {go : Code → List Item → Fr → AW → Prop} (hgo : ∀ c st F h, go c st F h → ∀ F', Sub F F' → RestC P fn Q c st F' h) {id : Nat} {F F' : Fr} {h : AW} (S : Sub F F') (st : List Item) : kExit P fn Q go id st F h → RestS P fn Q st (.exit id) F' h := by
  induction st with
  | nil => exact fun H => H.elim
  | cons i st ih =>
    intro H
    cases i with
    | seq c => exact ih H
    | block j =>
      simp only [kExit] at H
      simp only [RestS, outOf]
      split at H
      · rename_i e; rw [e]; exact kPop_ok hgo S st H
      · rename_i e; rw [e]; exact ih H
    | loop b => exact ih H
theorem getAll_spec {F : Fr} : ∀ {L : List Nat} {vs : List Value}, getAll F L = some vs → ∀ (j t : Nat), L[j]? = some t → F.t.get? t = vs[j]? ∧ (F.t.get? t).isSome = true
  | [], vs, _, j, t, ht => by simp at ht
  | t' :: L, vs, hg, j, t, ht => by
    simp only [getAll] at hg
    split at hg
    · rename_i v r h1 h2
      cases hg
      cases j with
      | zero => simp at ht; subst ht; simp [h1]
      | succ j => simp at ht ⊢; exact getAll_spec h2 j t ht
    · cases hg
theorem kRun_ok : ∀ (n : Nat) (c : Code) (st : List Item) (F : Fr) (h : AW), kRun P fn ann Q n c st F h → ∀ F', Sub F F' → RestC P fn Q c st F' h
  | 0, _, _, _, _, H, _, _ => H.elim
  | n + 1, c, st, F, h, H, F', S => by
    simp only [kRun] at H
    split at H
    · exact ⟨_, F', h, Runs.skip, kPop_ok (kRun_ok n) S _ H⟩
    · exact ⟨_, F', h, Runs.label, kPop_ok (kRun_ok n) S _ H⟩
    · split at H
      · rename_i L _
        split at H
        · rename_i vs hv hn
          refine H F' (by rw [← S.n]; exact Nat.eq_of_beq_eq_true hn) fun j t ht => ?_
          obtain ⟨a, b⟩ := getAll_spec hv j t ht
          rw [S.get b, a]
        · exact H.elim
      · obtain ⟨F1, F1', h1, r, S1, k⟩ := kRegion_ok H S
        exact ⟨_, F1', h1, r, kPop_ok (kRun_ok n) S1 _ k⟩
    · exact restC_seq (kRun_ok n _ _ _ _ H _ S)
    · unfold kCond at H
      split at H
      · split at H
        · rename_i t _ v hv
          obtain ⟨b, rfl, H⟩ := vBool_ok H
          have hv' := S.t _ _ hv
          rcases bC_ok H with ⟨rfl, H⟩ | ⟨rfl, H⟩
          · obtain ⟨e, F1, h1, r, s⟩ := kRun_ok n _ _ _ _ H _ (setB_sub S hv')
            exact ⟨e, F1, h1, Runs.cond_t (by simp only [Fr.ev, hv']) r, s⟩
          · obtain ⟨e, F1, h1, r, s⟩ := kRun_ok n _ _ _ _ H _ (setB_sub S hv')
            exact ⟨e, F1, h1, Runs.cond_f (by simp only [Fr.ev, hv']) r, s⟩
        · exact H.elim
      · obtain ⟨b, rfl, H⟩ := vBool_ok H
        rcases bC_ok H with ⟨rfl, H⟩ | ⟨rfl, H⟩
        · obtain ⟨e, F1, h1, r, s⟩ := kRun_ok n _ _ _ _ H _ S
          exact ⟨e, F1, h1, Runs.cond_t rfl r, s⟩
        · obtain ⟨e, F1, h1, r, s⟩ := kRun_ok n _ _ _ _ H _ S
          exact ⟨e, F1, h1, Runs.cond_f rfl r, s⟩
      · exact H.elim
    · exact restC_block (kRun_ok n _ _ _ _ H _ S)
    · exact restC_loop (kRun_ok n _ _ _ _ H _ S)
    · obtain ⟨e, F1, h1, r, s⟩ := kRun_ok n _ _ _ _ H _ S
      exact ⟨e, F1, h1, Runs.scope r, s⟩
    · exact ⟨_, F', h, Runs.exit, kExit_ok (kRun_ok n) S _ H⟩
    · exact ⟨_, F', h, Runs.ret, restS_ret (kRet_ok S H) st⟩
    · exact H.elim

theorem frOf_get {n : Nat} : ∀ {L : List Nat} {vs : List Value} {T0 : T Value} {t : Nat} {v : Value}, L.length = vs.length → (frOf n L vs T0).t.get? t = some v → T0.get? t = some v ∨ ∃ j : Nat, L[j]? = some t ∧ vs[j]? = some v
  | [], [], T0, t, v, _, h => .inl h
  | t' :: L, v' :: vs, T0, t, v, hl, h => by
    simp only [frOf] at h
    rcases frOf_get (by simpa using hl) h with e | ⟨j, a, b⟩
    · rw [T.get?_set] at e
      split at e
      · rename_i e'; cases e; exact .inr ⟨0, by simp [e'], by simp⟩
      · exact .inl e
    · exact .inr ⟨j + 1, by simpa using a, by simpa using b⟩
  | [], _ :: _, _, _, _, hl, _ => by simp at hl
  | _ :: _, [], _, _, _, hl, _ => by simp at hl
theorem frOf_n {n : Nat} : ∀ {L : List Nat} {vs : List Value} {T0 : T Value}, (frOf n L vs T0).n = n
  | [], _, _ => by simp [frOf]
  | _ :: _, [], _ => by simp [frOf]
  | t' :: L, v' :: vs, T0 => by simp only [frOf]; exact frOf_n

/-- From a place on: its own region, and what follows. -/
theorem unit_ok {f id n : Nat} {L : List Nat} {vs : List Value} {h : AW} (H : kUnit P f id n ann L vs h Q) : unitAt P f id L vs h Q := by
  unfold kUnit at H
  unfold unitAt
  split at H
  · rename_i fn c hb
    try rw [hb]
    try simp only
    split at H
    · rename_i i ops d st hl
      try rw [hl]
      try simp only
      split at H
      · rename_i hlen
        intro F hn hF
        have S : Sub (frOf fn.ntmps L vs .nil) F := by
          refine ⟨by rw [frOf_n, hn], fun t v hv => ?_⟩
          rcases frOf_get (Nat.eq_of_beq_eq_true hlen) hv with e | ⟨j, a, b⟩
          · simp [T.get?] at e
          · rw [hF j t a, b]
        obtain ⟨F1, F1', h1, r, S1, k⟩ := kRegion_ok H S
        exact ⟨_, F1', h1, r, kPop_ok (kRun_ok n) S1 _ k⟩
      · exact H.elim
    · exact H.elim
  · exact H.elim

/-- A call of a function. -/
theorem fn_ok {f n : Nat} {args : List Value} {h : AW} (H : kFn P f n ann args h Q) : EvQ P f args h Q := by
  unfold kFn at H
  split at H
  · rename_i fn c hb
    split at H
    · rename_i hle
      obtain ⟨e, F1, h1, r, s⟩ := kRun_ok n _ _ _ _ H _ (Sub.refl _)
      obtain ⟨hx, v, hv, q⟩ := s
      refine ⟨v, h1, Evals.of_runs hb (e := e) (F' := F1) ?_ hx ?_, q⟩
      · rw [show Nat.max args.length fn.ntmps = fn.ntmps from Nat.max_eq_right (Nat.le_of_ble_eq_true hle)]; exact r
      · unfold finV at hv; exact hv
    · exact H.elim
  · exact H.elim
end Go.Abs
end

section
/- Reasoning about the heap: what is owned, what stays. -/
namespace Go.Abs

/-! Words on what is known. -/
section
variable {α : Type}
@[simp] theorem oB_some {a : α} {f : α → Prop} : oB (some a) f = f a := rfl
@[simp] theorem oB_none {f : α → Prop} : oB none f = False := rfl
@[simp] theorem oP_some {v : Value} {h : AW} {f : Value → AW → Prop} : oP (some (v, h)) f = f v h := rfl
@[simp] theorem bC_true {p q : Prop} : bC true p q = p := rfl
@[simp] theorem bC_false {p q : Prop} : bC false p q = q := rfl
@[simp] theorem vInt_int {k : IntKind} {n : Int} {f : Int → Prop} : vInt k (.int k n) f = f n := by
  unfold vInt
  simp
@[simp] theorem vBool_bool {b : Bool} {f : Bool → Prop} : vBool (.bool b) f = f b := rfl
@[simp] theorem vStr_string {s : ByteArray} {f : ByteArray → Prop} : vStr (.string s) f = f s := rfl
@[simp] theorem vPtr_pointer {p : Option Addr} {f : Option Addr → Prop} : vPtr (.pointer p) f = f p := rfl
@[simp] theorem vSl_slice {a : Option Addr} {l c : Nat} {f : Option Addr → Nat → Nat → Prop} : vSl (.slice a l c) f = f a l c := rfl
@[simp] theorem vMap_map {r : Option Nat} {f : Option Nat → Prop} : vMap (.map r) f = f r := rfl
@[simp] theorem vFun_func {i : FuncId} {a b : Array Value} {f : FuncId → List Value → List Value → Prop} : vFun (.func (.func i) a b) f = f i a.toList b.toList := rfl
@[simp] theorem vAgg_agg {a : Array Value} {f : List Value → Prop} : vAgg (.agg a) f = f a.toList := rfl
@[simp] theorem vIfc_nil {p : Prop} {f : TypeId → Value → Prop} : vIfc .nilIface p f = p := rfl
@[simp] theorem vIfc_iface {p : Prop} {f : TypeId → Value → Prop} {t : TypeId} {x : Value} : vIfc (.iface t x) p f = f t x := rfl
@[simp] theorem vTup_tuple {a : Array Value} {f : List Value → Prop} : vTup (.tuple a) f = f a.toList := rfl
@[simp] theorem lC_cons {v : Value} {l : List Value} {f : Value → List Value → Prop} : lC (v :: l) f = f v l := rfl
@[simp] theorem lN_nil {p : Prop} : lN [] p = p := rfl
@[simp] theorem aP_some {i off : Nat} {f : Nat → Nat → Prop} : aP (some ⟨i, off, none⟩) f = f i off := rfl
@[simp] theorem shO_none {n : Nat} : shO none n = some none := rfl
@[simp] theorem shO_some {i off n : Nat} : shO (some ⟨i, off, none⟩) n = some (some ⟨i, off + n, none⟩) := rfl
end
theorem natIdx_eq {j n : Nat} (h : j < n) : natIdx (j : Int) n = some j := by
  unfold natIdx
  show (match Nat.ble (j + 1) n with | true => some j | false => none) = some j
  rw [Nat.ble_eq_true_of_le h]
theorem natBnd_eq {j n : Nat} (h : j ≤ n) : natBnd (j : Int) n = some j := by
  unfold natBnd
  show (match Nat.ble j n with | true => some j | false => none) = some j
  rw [Nat.ble_eq_true_of_le h]
theorem bEq_iff {x y : ByteArray} : bEq x y = true ↔ x = y := by
  unfold bEq
  rw [beq_iff_eq]
  refine ⟨fun h => ?_, fun h => by rw [h]⟩
  apply ByteArray.ext
  exact Array.ext' h
@[simp] theorem bEq_self {x : ByteArray} : bEq x x = true := bEq_iff.2 rfl
theorem bEq_false {x y : ByteArray} : bEq x y = false ↔ x ≠ y := by
  rw [← Bool.not_eq_true, bEq_iff]
theorem bC_iff {b : Bool} {p q : Prop} (h1 : b = true → p) (h2 : b = false → q) : bC b p q := by
  cases b
  · exact h2 rfl
  · exact h1 rfl
theorem wrap_small {n : Int} (h1 : -9223372036854775808 ≤ n) (h2 : n < 9223372036854775808) : IntKind.wrap .i64 n = n := by
  unfold IntKind.wrap
  simp [IntKind.signed, IntKind.bits]
  omega

/-! What stays. -/
/-- Each number's mark: to whom it belongs. -/
abbrev Paint := Nat → Nat

/-- Between two heaps only what bears marks of S was turned. -/
structure Chg (S : Nat → Prop) (h : AW) (μ : Paint) (h' : AW) (μ' : Paint) : Prop where
  le : h.next ≤ h'.next
  mark : ∀ i, i < h.next → μ' i = μ i
  obj : ∀ i, i < h.next → ¬ S (μ i) → h'.objs.get? i = h.objs.get? i
  fam : ∀ i, i < h.next → ¬ S (μ i) → h'.fams.get? i = h.fams.get? i
  ty : ∀ i, i < h.next → h'.tys.get? i = h.tys.get? i

variable {S S' : Nat → Prop} {h h' h'' : AW} {μ μ' μ'' : Paint}
theorem Chg.refl : Chg S h μ h μ := ⟨Nat.le_refl _, fun _ _ => rfl, fun _ _ _ => rfl, fun _ _ _ => rfl, fun _ _ => rfl⟩
theorem Chg.trans (a : Chg S h μ h' μ') (b : Chg S h' μ' h'' μ'') : Chg S h μ h'' μ'' := by
  refine ⟨Nat.le_trans a.le b.le, fun i hi => ?_, fun i hi hs => ?_, fun i hi hs => ?_, fun i hi => by rw [b.ty i (Nat.lt_of_lt_of_le hi a.le), a.ty i hi]⟩
  · rw [b.mark i (Nat.lt_of_lt_of_le hi a.le), a.mark i hi]
  · rw [b.obj i (Nat.lt_of_lt_of_le hi a.le) (by rw [a.mark i hi]; exact hs), a.obj i hi hs]
  · rw [b.fam i (Nat.lt_of_lt_of_le hi a.le) (by rw [a.mark i hi]; exact hs), a.fam i hi hs]
theorem Chg.mono (a : Chg S h μ h' μ') (hs : ∀ n, S n → S' n) : Chg S' h μ h' μ' :=
  ⟨a.le, a.mark, fun i hi hn => a.obj i hi fun x => hn (hs _ x), fun i hi hn => a.fam i hi fun x => hn (hs _ x), a.ty⟩

/-- New numbers bear the mark c. -/
def mkNew (μ : Paint) (n c : Nat) : Paint := fun i => if i < n then μ i else c

/-! Blocks. -/
/-- The block i has just these cells. -/
def VarAt (h : AW) (i : Nat) (l : List Value) : Prop := ∃ t, h.objs.get? i = some (.var t l.length false) ∧ ∀ j, j < l.length → t.get? j = l[j]?

theorem VarAt.rd {i : Nat} {l : List Value} (V : VarAt h i l) (j : Nat) : h.rd i j = l[j]? := by
  obtain ⟨t, ho, hc⟩ := V
  unfold AW.rd
  rw [ho]
  simp only
  by_cases hj : j < l.length
  · rw [Nat.ble_eq_true_of_le hj]; exact hc j hj
  · rw [show Nat.ble (j + 1) l.length = false from by
      rw [← Bool.not_eq_true, Nat.ble_eq]; omega]
    rw [List.getElem?_eq_none (by omega)]
theorem VarAt.wr {i j : Nat} {l : List Value} {v : Value} (V : VarAt h i l) (hj : j < l.length) (h1 : oneCell v = true) : ∃ t', h.wr i j v = some { h with objs := h.objs.set i (.var t' l.length false) } ∧ VarAt { h with objs := h.objs.set i (.var t' l.length false) } i (l.set j v) := by
  obtain ⟨t, ho, hc⟩ := V
  refine ⟨t.set j v, ?_, t.set j v, ?_, fun k hk => ?_⟩
  · unfold AW.wr
    rw [h1, ho]
    simp only
    rw [Nat.ble_eq_true_of_le hj]
  · simp only [List.length_set]; exact T.get?_set_same _ _ _
  · rw [T.get?_set, List.getElem?_set]
    rw [List.length_set] at hk
    by_cases e : k = j
    · subst e; simp [hk]
    · rw [if_neg e, if_neg (fun x => e x.symm)]; exact hc k hk
theorem VarAt.lt {i : Nat} {l : List Value} (V : VarAt h i l) (e : h'.objs.get? i = h.objs.get? i) : VarAt h' i l := by
  obtain ⟨t, ho, hc⟩ := V
  exact ⟨t, by rw [e]; exact ho, hc⟩
theorem VarAt.keep {i : Nat} {l : List Value} (V : VarAt h i l) (hi : i < h.next) (hs : ¬ S (μ i)) (C : Chg S h μ h' μ') : VarAt h' i l := V.lt (C.obj i hi hs)
theorem addVar_at {l : List Value} : VarAt (h.addVar l) h.next l := by
  refine ⟨T.ofList l, ?_, fun j _ => T.get?_ofList _ _⟩
  simp only [AW.addVar]
  exact T.get?_set_same _ _ _
theorem addVar_chg {l : List Value} {c : Nat} : Chg S h μ (h.addVar l) (mkNew μ h.next c) := by
  refine ⟨Nat.le_succ _, fun i hi => by simp [mkNew, hi], fun i hi _ => ?_, fun i hi _ => rfl, fun _ _ => rfl⟩
  simp only [AW.addVar]
  exact T.get?_set_ne _ _ (by omega)
theorem mkNew_new {n c i : Nat} (hi : n ≤ i) : mkNew μ n c i = c := by simp [mkNew]; omega
theorem mkNew_old {n c i : Nat} (hi : i < n) : mkNew μ n c i = μ i := by simp [mkNew, hi]
/-- A block written. -/
theorem VarAt.chg {i j : Nat} {l : List Value} {v : Value} (V : VarAt h i l) (hj : j < l.length) (h1 : oneCell v = true) (hs : S (μ i)) : ∃ h', h.wr i j v = some h' ∧ VarAt h' i (l.set j v) ∧ Chg S h μ h' μ ∧ h'.next = h.next := by
  obtain ⟨t', e, V'⟩ := V.wr hj h1
  refine ⟨_, e, V', ⟨Nat.le_refl _, fun _ _ => rfl, fun k hk hn => ?_, fun _ _ _ => rfl, fun _ _ => rfl⟩, rfl⟩
  exact T.get?_set_ne _ _ (fun e => hn (by rw [e]; exact hs))

/-! Slices that are read. -/
/-- The cells from an address on. -/
def Sl (h : AW) (a : Option Addr) (vs : List Value) : Prop :=
  (a = none ∧ vs = []) ∨ ∃ i off, a = some ⟨i, off, none⟩ ∧ ∀ j, j < vs.length → h.rd i (off + j) = vs[j]?

theorem Sl.get {a : Option Addr} {vs : List Value} (H : Sl h a vs) {j : Nat} {v : Value} (hv : vs[j]? = some v) {f : Nat → Nat → Prop} (hf : ∀ i off, a = some ⟨i, off, none⟩ → h.rd i (off + j) = some v → f i off) : aP a f := by
  rcases H with ⟨_, rfl⟩ | ⟨i, off, rfl, hc⟩
  · simp at hv
  · simp only [aP_some]
    have : j < vs.length := by
      rcases Nat.lt_or_ge j vs.length with x | x
      · exact x
      · rw [List.getElem?_eq_none x] at hv; cases hv
    exact hf i off rfl (by rw [hc j this]; exact hv)
/-- An element of one cell. -/
theorem Sl.at1 {a : Option Addr} {vs : List Value} (H : Sl h a vs) {z : Int} {j n : Nat} {v : Value} (hz : z = j) (hn : n = vs.length) (hv : vs[j]? = some v) {f : Value → Prop} (hf : f v) : aP a fun i off => oB (natIdx z n) fun j => oB (h.rd i (off + j * 1)) f := by
  subst hz
  have hj : j < vs.length := by
    rcases Nat.lt_or_ge j vs.length with x | x
    · exact x
    · rw [List.getElem?_eq_none x] at hv; cases hv
  refine H.get hv fun i off _ hr => ?_
  rw [natIdx_eq (by omega)]
  simp only [oB_some, Nat.mul_one]
  rw [hr]
  exact hf
/-- An element's address. -/
theorem Sl.addr {a : Option Addr} {vs : List Value} (H : Sl h a vs) {z : Int} {j n k sz : Nat} {v : Value} (hz : z = j) (hn : n * sz = vs.length) (hk : k < sz) (hj : j < n) (hv : vs[j * sz + k]? = some v) {f : Nat → Nat → Nat → Prop} (hf : ∀ i off, a = some ⟨i, off, none⟩ → h.rd i (off + (j * sz + k)) = some v → f i off j) :
    aP a fun i off => oB (natIdx z n) fun j => f i off j := by
  subst hz
  refine H.get hv fun i off e hr => ?_
  rw [natIdx_eq hj]
  exact hf i off e hr
theorem Sl.rdN {vs : List Value} {i off : Nat} (H : ∀ j, j < vs.length → h.rd i (off + j) = vs[j]?) : h.rdN i off vs.length = some vs := by
  induction vs generalizing off with
  | nil => rfl
  | cons v vs ih =>
    have h0 := H 0 (by simp)
    simp only [Nat.add_zero, List.getElem?_cons_zero] at h0
    simp only [List.length_cons, AW.rdN, h0]
    rw [ih (off := off + 1) fun j hj => by have := H (j + 1) (by simpa using hj); rwa [List.getElem?_cons_succ, show off + (j + 1) = off + 1 + j from by omega] at this]
end Go.Abs
end

section
/- Slices that are owned: written, cut, appended to. -/
namespace Go.Abs
variable {S : Nat → Prop} {h h' : AW} {μ μ' : Paint} {c : Nat} {P : Program}

def Kind (h : AW) (μ : Paint) (c i off cap sz : Nat) : Prop :=
  (∃ t n ro, h.objs.get? i = some (.var t n ro) ∧ off + cap * sz ≤ n ∧ (ro = true → cap = 0)) ∨
  (∃ f g lo hi t ext frz, h.objs.get? i = some (.row f g lo hi sz t) ∧ h.fams.get? f = some ⟨g, ext, frz⟩ ∧ f < h.next ∧ μ f = c ∧ lo ≤ off ∧ off + cap * sz = hi ∧ frz ≤ lo)

/-- The cells vs stand at a, and there is room for cap elements of sz cells; all of it bears the mark c. -/
structure OM (h : AW) (μ : Paint) (c : Nat) (a : Option Addr) (cap sz : Nat) (vs : List Value) : Prop where
  le : vs.length ≤ cap * sz
  one : allOne vs = true
  mem : (a = none ∧ cap = 0) ∨ ∃ i off, a = some ⟨i, off, none⟩ ∧ i < h.next ∧ μ i = c ∧ (∀ j, j < vs.length → h.rd i (off + j) = vs[j]?) ∧ Kind h μ c i off cap sz

variable {a : Option Addr} {cap sz : Nat} {vs : List Value}
theorem OM.nil : OM h μ c none 0 sz [] := ⟨by simp, rfl, .inl ⟨rfl, rfl⟩⟩
theorem OM.sl (O : OM h μ c a cap sz vs) : Sl h a vs := by
  rcases O.mem with ⟨e, rfl⟩ | ⟨i, off, e, _, _, r, _⟩
  · refine .inl ⟨e, List.eq_nil_of_length_eq_zero ?_⟩
    have := O.le; omega
  · exact .inr ⟨i, off, e, r⟩
theorem rd_same {i off : Nat} (ho : h'.objs.get? i = h.objs.get? i) (hf : ∀ f g lo hi z t, h.objs.get? i = some (.row f g lo hi z t) → h'.fams.get? f = h.fams.get? f) : h'.rd i off = h.rd i off := by
  unfold AW.rd
  rw [ho]
  split
  · rfl
  · rename_i f g lo hi z t e
    rw [hf _ _ _ _ _ _ e]
  · rfl
theorem OM.keep (O : OM h μ c a cap sz vs) (hs : ¬ S c) (C : Chg S h μ h' μ') : OM h' μ' c a cap sz vs := by
  refine ⟨O.le, O.one, ?_⟩
  rcases O.mem with x | ⟨i, off, e, hi, hm, r, k⟩
  · exact .inl x
  · have ho := C.obj i hi (by rw [hm]; exact hs)
    refine .inr ⟨i, off, e, Nat.lt_of_lt_of_le hi C.le, by rw [C.mark i hi, hm], fun j hj => ?_, ?_⟩
    · rw [← r j hj]
      refine rd_same ho fun f g lo hi' z t hrow => ?_
      rcases k with ⟨t', n, ro, h1, _⟩ | ⟨f', g', lo', hi'', t', ext, frz, h1, h2, h3, h4, _⟩
      · rw [h1] at hrow; cases hrow
      · rw [h1] at hrow; cases hrow
        exact C.fam f h3 (by rw [h4]; exact hs)
    · rcases k with ⟨t', n, ro, h1, h2⟩ | ⟨f', g', lo', hi'', t', ext, frz, h1, h2, h3, h4, h5⟩
      · exact .inl ⟨t', n, ro, by rw [ho]; exact h1, h2⟩
      · exact .inr ⟨f', g', lo', hi'', t', ext, frz, by rw [ho]; exact h1, by rw [C.fam f' h3 (by rw [h4]; exact hs)]; exact h2, Nat.lt_of_lt_of_le h3 C.le, by rw [C.mark f' h3, h4], h5⟩
/-- The cells vs stand at a, and it all bears the mark c. -/
def SM (h : AW) (μ : Paint) (c : Nat) (a : Option Addr) (vs : List Value) : Prop :=
  (a = none ∧ vs = []) ∨ ∃ i off, a = some ⟨i, off, none⟩ ∧ i < h.next ∧ μ i = c ∧ (∀ f g lo hi z t, h.objs.get? i = some (.row f g lo hi z t) → f < h.next ∧ μ f = c) ∧ ∀ j, j < vs.length → h.rd i (off + j) = vs[j]?
theorem SM.sl (X : SM h μ c a vs) : Sl h a vs := by
  rcases X with x | ⟨i, off, e, _, _, _, r⟩
  · exact .inl x
  · exact .inr ⟨i, off, e, r⟩
theorem SM.keep (X : SM h μ c a vs) (hs : ¬ S c) (C : Chg S h μ h' μ') : SM h' μ' c a vs := by
  rcases X with x | ⟨i, off, e, h1, h2, h3, r⟩
  · exact .inl x
  · have ho := C.obj i h1 (by rw [h2]; exact hs)
    refine .inr ⟨i, off, e, Nat.lt_of_lt_of_le h1 C.le, by rw [C.mark i h1, h2], fun f g lo hi z t hr => ?_, fun j hj => ?_⟩
    · rw [ho] at hr
      obtain ⟨h4, h5⟩ := h3 f g lo hi z t hr
      exact ⟨Nat.lt_of_lt_of_le h4 C.le, by rw [C.mark f h4, h5]⟩
    · rw [← r j hj]
      refine rd_same ho fun f g lo hi z t hr => ?_
      obtain ⟨h4, h5⟩ := h3 f g lo hi z t hr
      exact C.fam f h4 (by rw [h5]; exact hs)
theorem SM.nil : SM h μ c none [] := .inl ⟨rfl, rfl⟩
theorem allOne_append : ∀ {l m : List Value}, allOne (l ++ m) = (allOne l && allOne m)
  | [], m => rfl
  | v :: l, m => by
    simp only [List.cons_append, allOne]
    cases oneCell v
    · rfl
    · exact allOne_append
theorem allOne_get : ∀ {l : List Value} {j : Nat} {v : Value}, allOne l = true → l[j]? = some v → oneCell v = true
  | [], j, v, _, e => by simp at e
  | w :: l, j, v, ha, e => by
    simp only [allOne] at ha
    split at ha
    · rename_i h1
      cases j with
      | zero => simp at e; subst e; exact h1
      | succ j => simp at e; exact allOne_get ha e
    · cases ha
theorem allOne_of : ∀ {l : List Value}, (∀ v, v ∈ l → oneCell v = true) → allOne l = true
  | [], _ => rfl
  | w :: l, H => by
    simp only [allOne]
    rw [H w (by simp)]
    exact allOne_of fun v hv => H v (by simp [hv])
theorem allOne_mem {l : List Value} (ha : allOne l = true) {v : Value} (hv : v ∈ l) : oneCell v = true := by
  obtain ⟨j, hj, e⟩ := List.getElem_of_mem hv
  exact allOne_get ha (j := j) (by rw [List.getElem?_eq_getElem hj, e])
/-- Written within. -/
theorem OM.wr {i off : Nat} (O : OM h μ c (some ⟨i, off, none⟩) cap sz vs) {j : Nat} {v : Value} (hj : j < cap * sz) (hv : j ≤ vs.length) (h1 : oneCell v = true) :
    ∃ h', h.wr i (off + j) v = some h' ∧ OM h' μ c (some ⟨i, off, none⟩) cap sz (if j < vs.length then vs.set j v else vs ++ [v]) ∧ Chg (· = c) h μ h' μ ∧ h'.next = h.next := by
  rcases O.mem with ⟨e, _⟩ | ⟨i', off', e, hi, hm, r, k⟩
  · cases e
  cases e
  have hone : allOne (if j < vs.length then vs.set j v else vs ++ [v]) = true := by
    split
    · refine allOne_of fun w hw => ?_
      rcases List.mem_or_eq_of_mem_set hw with x | rfl
      · exact allOne_mem O.one x
      · exact h1
    · rw [allOne_append, O.one]; simp [allOne, h1]
  have hlen : (if j < vs.length then vs.set j v else vs ++ [v]).length ≤ cap * sz := by
    split
    · rw [List.length_set]; exact O.le
    · rw [List.length_append]; simp; omega
  have hget : ∀ k, k < (if j < vs.length then vs.set j v else vs ++ [v]).length → (if j < vs.length then vs.set j v else vs ++ [v])[k]? = if k = j then some v else vs[k]? := by
    intro k hk
    split
    · rename_i hlt
      rw [List.getElem?_set]
      by_cases e : k = j
      · subst e; simp [hlt]
      · rw [if_neg (fun x => e x.symm), if_neg e]
    · rename_i hge
      have : j = vs.length := by omega
      subst this
      by_cases e : k = vs.length
      · subst e; simp
      · rw [if_neg e, List.getElem?_append_left]
        rw [if_neg hge] at hk
        simp at hk; omega
  have hlen2 : ∀ k, k < (if j < vs.length then vs.set j v else vs ++ [v]).length → k ≠ j → k < vs.length := by
    intro k hk hne
    split at hk
    · rwa [List.length_set] at hk
    · simp at hk; omega
  rcases k with ⟨t, n, ro, ho, hb, hro⟩ | ⟨f, g, lo, hi', t, ext, frz, ho, hf, hfn, hfm, h5, h6, h7⟩
  · have : ro = false := by
      cases ro
      · rfl
      · have := hro rfl; subst this; simp at hj
    subst this
    refine ⟨{ h with objs := h.objs.set i (.var (t.set (off + j) v) n false) }, ?_, ⟨hlen, hone, .inr ⟨i, off, rfl, hi, hm, fun k hk => ?_, .inl ⟨t.set (off + j) v, n, false, T.get?_set_same _ _ _, hb, fun e => (by cases e)⟩⟩⟩, ⟨Nat.le_refl _, fun _ _ => rfl, fun k hk hn => T.get?_set_ne _ _ (fun e => hn (by rw [e, hm])), fun _ _ _ => rfl, fun _ _ => rfl⟩, rfl⟩
    · unfold AW.wr
      rw [h1, ho]; simp only
      rw [Nat.ble_eq_true_of_le (show off + j + 1 ≤ n by omega)]
    · rw [hget k hk]
      unfold AW.rd
      simp only [T.get?_set_same]
      have hkc : k < cap * sz := Nat.lt_of_lt_of_le hk hlen
      rw [Nat.ble_eq_true_of_le (show off + k + 1 ≤ n by omega)]
      simp only
      rw [T.get?_set]
      by_cases e : k = j
      · subst e; simp
      · rw [if_neg (by omega), if_neg e]
        have := r k (hlen2 k hk e)
        unfold AW.rd at this
        rw [ho] at this; simp only at this
        rw [Nat.ble_eq_true_of_le (show off + k + 1 ≤ n by omega)] at this
        exact this
  · refine ⟨{ h with objs := h.objs.set i (.row f (g + 1) lo hi' sz (t.set (off + j) v)), fams := h.fams.set f { gen := g + 1, ext := ext, frz := frz } }, ?_, ⟨hlen, hone, .inr ⟨i, off, rfl, hi, hm, fun k hk => ?_, .inr ⟨f, g + 1, lo, hi', t.set (off + j) v, ext, frz, T.get?_set_same _ _ _, T.get?_set_same _ _ _, hfn, hfm, h5, h6, h7⟩⟩⟩, ⟨Nat.le_refl _, fun _ _ => rfl, fun k hk hn => T.get?_set_ne _ _ (fun e => hn (by rw [e, hm])), fun k hk hn => T.get?_set_ne _ _ (fun e => hn (by rw [e, hfm])), fun _ _ => rfl⟩, rfl⟩
    · unfold AW.wr
      rw [h1, ho]; simp only
      rw [hf]; simp only
      rw [Nat.beq_refl, Nat.ble_eq_true_of_le (show lo ≤ off + j by omega), Nat.ble_eq_true_of_le (show off + j + 1 ≤ hi' by omega), Nat.ble_eq_true_of_le (show frz ≤ off + j by omega)]
      rfl
    · rw [hget k hk]
      unfold AW.rd
      simp only [T.get?_set_same]
      have hkc : k < cap * sz := Nat.lt_of_lt_of_le hk hlen
      rw [Nat.beq_refl, Nat.ble_eq_true_of_le (show lo ≤ off + k by omega), Nat.ble_eq_true_of_le (show off + k + 1 ≤ hi' by omega)]
      simp only [Bool.and_self]
      rw [T.get?_set]
      by_cases e : k = j
      · subst e; simp
      · rw [if_neg (by omega), if_neg e]
        have := r k (hlen2 k hk e)
        unfold AW.rd at this
        rw [ho] at this; simp only at this
        rw [hf] at this; simp only at this
        rw [Nat.beq_refl, Nat.ble_eq_true_of_le (show lo ≤ off + k by omega), Nat.ble_eq_true_of_le (show off + k + 1 ≤ hi' by omega)] at this
        exact this
/-- Written behind, one after the other. -/
theorem OM.wrL {i off : Nat} : ∀ (new : List Value) {h : AW} {vs : List Value}, OM h μ c (some ⟨i, off, none⟩) cap sz vs → vs.length + new.length ≤ cap * sz → allOne new = true →
    ∃ h', h.wrL i (off + vs.length) new = some h' ∧ OM h' μ c (some ⟨i, off, none⟩) cap sz (vs ++ new) ∧ Chg (· = c) h μ h' μ ∧ h'.next = h.next
  | [], h, vs, O, _, _ => ⟨h, rfl, by simpa using O, Chg.refl, rfl⟩
  | v :: new, h, vs, O, hle, ha => by
    simp only [allOne] at ha
    split at ha
    · rename_i h1
      simp only [List.length_cons] at hle
      obtain ⟨h2, e, O2, C, n2⟩ := O.wr (j := vs.length) (by omega) (Nat.le_refl _) h1
      rw [if_neg (Nat.lt_irrefl _)] at O2
      obtain ⟨h3, e3, O3, C3, n3⟩ := OM.wrL new O2 (by simp; omega) ha
      refine ⟨h3, ?_, by simpa using O3, C.trans C3, by rw [n3, n2]⟩
      simp only [AW.wrL]
      rw [e]; simp only
      rw [List.length_append] at e3
      simpa [Nat.add_assoc] using e3
    · cases ha
/-- The first elements, with all the room. -/
theorem OM.take (O : OM h μ c a cap sz vs) (k : Nat) : OM h μ c a cap sz (vs.take k) := by
  refine ⟨Nat.le_trans (by simp; omega) O.le, allOne_of fun v hv => allOne_mem O.one (List.mem_of_mem_take hv), ?_⟩
  rcases O.mem with x | ⟨i, off, e, hi, hm, r, kk⟩
  · exact .inl x
  · refine .inr ⟨i, off, e, hi, hm, fun j hj => ?_, kk⟩
    rw [List.length_take] at hj
    rw [r j (by omega), List.getElem?_take_of_lt (by omega)]
/-- From an element on. -/
theorem OM.drop {i off : Nat} (O : OM h μ c (some ⟨i, off, none⟩) cap sz vs) {k : Nat} (hk : k ≤ cap) : OM h μ c (some ⟨i, off + k * sz, none⟩) (cap - k) sz (vs.drop (k * sz)) := by
  have hmul : (cap - k) * sz + k * sz = cap * sz := by rw [← Nat.add_mul, Nat.sub_add_cancel hk]
  refine ⟨by rw [List.length_drop]; have := O.le; omega, allOne_of fun v hv => allOne_mem O.one (List.mem_of_mem_drop hv), ?_⟩
  rcases O.mem with ⟨e, _⟩ | ⟨i', off', e, hi, hm, r, kk⟩
  · cases e
  cases e
  refine .inr ⟨i, off + k * sz, rfl, hi, hm, fun j hj => ?_, ?_⟩
  · rw [List.length_drop] at hj
    rw [show off + k * sz + j = off + (k * sz + j) from by omega, r _ (by omega), List.getElem?_drop]
  · rcases kk with ⟨t, n, ro, h1, h2, h3⟩ | ⟨f, g, lo, hi', t, ext, frz, h1, h2, h3, h4, h5, h6, h7⟩
    · exact .inl ⟨t, n, ro, h1, by omega, fun e => by have := h3 e; omega⟩
    · exact .inr ⟨f, g, lo, hi', t, ext, frz, h1, h2, h3, h4, by omega, by omega, h7⟩
/-- Telling a type turns nothing else. -/
theorem OM.tag (O : OM h μ c a cap sz vs) {i : Nat} {t : TypeId} : OM (h.tag i t) μ c a cap sz vs := ⟨O.le, O.one, O.mem⟩
theorem OM.tagAs (O : OM h μ c a cap sz vs) {i : Nat} {t : TypeId} {o : Option TypeId} : OM (h.tagAs i o t) μ c a cap sz vs := by
  unfold AW.tagAs
  split
  · split
    · exact O.tag
    · exact O
  · exact O
theorem Chg.tag (C : Chg S h μ h' μ') {i : Nat} (hi : h.next ≤ i) {t : TypeId} : Chg S h μ (h'.tag i t) μ' :=
  ⟨C.le, C.mark, C.obj, C.fam, fun j hj => (T.get?_set_ne _ _ (by omega)).trans (C.ty j hj)⟩
theorem Chg.tagAs (C : Chg S h μ h' μ') {i : Nat} (hi : h.next ≤ i) {t : TypeId} {o : Option TypeId} : Chg S h μ (h'.tagAs i o t) μ' := by
  unfold AW.tagAs
  split
  · split
    · exact C.tag hi
    · exact C
  · exact C
/-- A new row. -/
theorem newRow_ok {new : List Value} {n : Nat} (ha : allOne new = true) (hn : new.length = n * sz) : ∃ h', h.newRow sz new = some (h.next, h') ∧ OM h' (mkNew μ h.next c) c (some ⟨h.next, 0, none⟩) n sz new ∧ Chg S h μ h' (mkNew μ h.next c) := by
  refine ⟨{ h with next := h.next + 2, objs := h.objs.set h.next (.row (h.next + 1) 0 0 new.length sz (T.ofList new)), fams := h.fams.set (h.next + 1) ⟨0, new.length, 0⟩ }, ?_, ⟨by omega, ha, .inr ⟨h.next, 0, rfl, by simp only; omega, mkNew_new (Nat.le_refl _), fun j hj => ?_, .inr ⟨h.next + 1, 0, 0, new.length, T.ofList new, new.length, 0, T.get?_set_same _ _ _, T.get?_set_same _ _ _, by simp only; omega, mkNew_new (by omega), Nat.le_refl _, by omega, Nat.le_refl _⟩⟩⟩, ⟨by simp only; omega, fun i hi => mkNew_old hi, fun i hi _ => T.get?_set_ne _ _ (by omega), fun i hi _ => T.get?_set_ne _ _ (by omega), fun _ _ => rfl⟩⟩
  · unfold AW.newRow; rw [ha]
  · unfold AW.rd
    simp only [T.get?_set_same]
    rw [Nat.beq_refl, Nat.ble_eq_true_of_le (show 0 ≤ 0 + j by omega), Nat.ble_eq_true_of_le (show 0 + j + 1 ≤ new.length by omega)]
    simp only [Bool.and_self, Nat.zero_add]
    exact T.get?_ofList _ _
theorem OM.rdN {i off l : Nat} (O : OM h μ c (some ⟨i, off, none⟩) cap sz vs) (hl : vs.length = l) : h.rdN i off l = some vs := by
  subst hl
  rcases O.mem with ⟨e, _⟩ | ⟨i', off', e, hi, hm, r, kk⟩
  · cases e
  cases e
  exact Sl.rdN r
theorem appendV_ok {e : TypeId} {te : TI} (h2 : tiOf P e = some te) (hz : te.zero.isSome = true) (O : OM h μ c a cap te.size vs) {l n : Nat} (hl : vs.length = l * te.size) {new : List Value} (hn : new.length = n * te.size) (ha : allOne new = true)
    (r1 : (l + n) * te.bytes ≤ 70368744177664) (r2 : l + n ≤ 4611686018427387904) (hcap : l ≤ cap) :
    ∃ a' cap' h', appendV P h e (.slice a l cap) n new = some (.slice a' (l + n) cap', h') ∧ OM h' (mkNew μ h.next c) c a' cap' te.size (vs ++ new) ∧ l + n ≤ cap' ∧ Chg (· = c) h μ h' (mkNew μ h.next c) := by
  have hlen : (vs ++ new).length = (l + n) * te.size := by rw [List.length_append, hl, hn, Nat.add_mul]
  unfold appendV
  rw [h2]
  simp only
  rw [hn, Nat.beq_refl]
  simp only
  have keepμ : ∀ {h' : AW}, h'.next = h.next → OM h' μ c a cap te.size (vs ++ new) → OM h' (mkNew μ h.next c) c a cap te.size (vs ++ new) := by
    intro h' hnx O'
    refine O'.keep (S := fun _ => False) (fun x => x) ⟨Nat.le_refl _, fun i hi => mkNew_old (by omega), fun _ _ _ => rfl, fun _ _ _ => rfl, fun _ _ => rfl⟩
  by_cases hroom : l + n ≤ cap
  · rw [Nat.ble_eq_true_of_le hroom]
    simp only
    rcases O.mem with ⟨rfl, rfl⟩ | ⟨i, off, rfl, hi, hm, r, kk⟩
    · have h0 : n = 0 := by omega
      have : new = [] := List.eq_nil_of_length_eq_zero (by rw [hn, h0]; simp)
      subst this
      refine ⟨none, 0, h, rfl, ?_, hroom, ?_⟩
      · rw [List.append_nil]; exact O.keep (S := fun _ => False) (fun x => x) ⟨Nat.le_refl _, fun i hi => mkNew_old hi, fun _ _ _ => rfl, fun _ _ _ => rfl, fun _ _ => rfl⟩
      · exact ⟨Nat.le_refl _, fun i hi => mkNew_old hi, fun _ _ _ => rfl, fun _ _ _ => rfl, fun _ _ => rfl⟩
    · obtain ⟨h3, e3, O3, C3, n3⟩ := OM.wrL new O (by rw [hl, hn, ← Nat.add_mul]; exact Nat.mul_le_mul_right _ hroom) ha
      rw [hl] at e3
      refine ⟨some ⟨i, off, none⟩, cap, h3, by simp only; rw [e3], keepμ n3 O3, hroom, ⟨C3.le, fun i hi => mkNew_old hi, C3.obj, C3.fam, C3.ty⟩⟩
  · rw [show Nat.ble (l + n) cap = false from by rw [← Bool.not_eq_true, Nat.ble_eq]; exact hroom]
    simp only
    rw [show roomy (l + n) te.bytes = true from Nat.ble_eq_true_of_le r1, Nat.ble_eq_true_of_le r2, ha, hz]
    simp only [Bool.and_self]
    rcases O.mem with ⟨rfl, rfl⟩ | ⟨i, off, rfl, hi, hm, r, kk⟩
    · have h0 : l = 0 := by omega
      subst h0
      have : vs = [] := List.eq_nil_of_length_eq_zero (by simpa using hl)
      subst this
      obtain ⟨h3, e3, O3, C3⟩ := newRow_ok (h := h) (μ := μ) (c := c) (S := (· = c)) ha hn
      refine ⟨some ⟨h.next, 0, none⟩, n, h3.tag h.next e, ?_, by simpa using O3.tag, by omega, C3.tag (Nat.le_refl _)⟩
      simp only [e3]
      simp
    · simp only
      rcases kk with ⟨t, m, ro, ho, hb, hro⟩ | ⟨f, g, lo, hi', t, ext, frz, ho, hf, hfn, hfm, h5, h6, h7⟩
      · rw [ho]; simp only
        rw [O.rdN hl]; simp only
        obtain ⟨h3, e3, O3, C3⟩ := newRow_ok (h := h) (μ := μ) (c := c) (S := (· = c)) (new := vs ++ new) (n := l + n) (sz := te.size) (by rw [allOne_append, O.one, ha]; rfl) hlen
        rw [e3]
        exact ⟨some ⟨h.next, 0, none⟩, l + n, h3.tag h.next e, rfl, O3.tag, Nat.le_refl _, C3.tag (Nat.le_refl _)⟩
      · rw [ho]; simp only
        rw [hf]; simp only
        have hcs : l * te.size ≤ cap * te.size := Nat.mul_le_mul_right _ hcap
        rw [Nat.beq_refl, Nat.beq_refl, Nat.ble_eq_true_of_le h5, Nat.ble_eq_true_of_le (show off + l * te.size ≤ hi' by omega), show Nat.beq (off + cap * te.size) hi' = true from by rw [h6, Nat.beq_refl], Nat.ble_eq_true_of_le (show frz ≤ off + l * te.size by omega)]
        simp only [Bool.and_self]
        refine ⟨some ⟨h.next, off, none⟩, l + n, AW.tagAs { h with next := h.next + 1, objs := h.objs.set h.next (.row f (nextGen ext (off + l * te.size) g) off (off + l * te.size + n * te.size) te.size (t.setL (off + l * te.size) new)), fams := h.fams.set f { gen := nextGen ext (off + l * te.size) g, ext := off + l * te.size + n * te.size, frz := frz } } h.next (h.tys.get? i) e, rfl, OM.tagAs (h := { h with next := h.next + 1, objs := h.objs.set h.next (.row f (nextGen ext (off + l * te.size) g) off (off + l * te.size + n * te.size) te.size (t.setL (off + l * te.size) new)), fams := h.fams.set f { gen := nextGen ext (off + l * te.size) g, ext := off + l * te.size + n * te.size, frz := frz } }) ⟨by rw [hlen]; exact Nat.le_refl _, by rw [allOne_append, O.one, ha]; rfl, .inr ⟨h.next, off, rfl, by simp only; omega, mkNew_new (Nat.le_refl _), fun j hj => ?_, .inr ⟨f, _, _, _, _, _, _, T.get?_set_same _ _ _, T.get?_set_same _ _ _, by simp only; omega, by rw [mkNew_old hfn, hfm], Nat.le_refl _, by rw [Nat.add_mul]; omega, by omega⟩⟩⟩, Nat.le_refl _, Chg.tagAs (h' := { h with next := h.next + 1, objs := h.objs.set h.next (.row f (nextGen ext (off + l * te.size) g) off (off + l * te.size + n * te.size) te.size (t.setL (off + l * te.size) new)), fams := h.fams.set f { gen := nextGen ext (off + l * te.size) g, ext := off + l * te.size + n * te.size, frz := frz } }) ⟨by simp only; omega, fun i hi => mkNew_old hi, fun k hk _ => T.get?_set_ne _ _ (by omega), fun k hk hnS => T.get?_set_ne _ _ (fun e => hnS (by rw [e, hfm])), fun _ _ => rfl⟩ (Nat.le_refl _)⟩
        unfold AW.rd
        simp only [T.get?_set_same]
        rw [List.length_append] at hj
        rw [Nat.beq_refl, Nat.ble_eq_true_of_le (show off ≤ off + j by omega), Nat.ble_eq_true_of_le (show off + j + 1 ≤ off + l * te.size + n * te.size by omega)]
        simp only [Bool.and_self]
        rw [T.get?_setL]
        by_cases hlt : j < vs.length
        · rw [if_neg (by omega), List.getElem?_append_left hlt]
          have := r j hlt
          unfold AW.rd at this
          rw [ho] at this; simp only at this
          rw [hf] at this; simp only at this
          rw [Nat.beq_refl, Nat.ble_eq_true_of_le (show lo ≤ off + j by omega), Nat.ble_eq_true_of_le (show off + j + 1 ≤ hi' by omega)] at this
          exact this
        · rw [if_pos (by omega), List.getElem?_append_right (by omega)]
          congr 1
          omega
/-- append of a slice to a slice that is owned. -/
theorem appendB_ok {ty e : TypeId} {te : TI} {ag : Bool} {s1 b1 : Nat} {z1 : Option Value} (h1 : tiOf P ty = some ⟨.slice e, ag, s1, b1, z1⟩) (h2 : tiOf P e = some te) (hz : te.zero.isSome = true) (hs : 0 < te.size) (O : OM h μ c a cap te.size vs) {l n m : Nat} (hl : vs.length = l * te.size)
    {b : Option Addr} {new : List Value} (X : Sl h b new) (hn : new.length = n * te.size) (ha : allOne new = true)
    (r1 : (l + n) * te.bytes ≤ 70368744177664) (r2 : l + n ≤ 4611686018427387904) (hcap : l ≤ cap) :
    ∃ a' cap' h', appendB P h ⟨[ty, ty]⟩ [.slice a l cap, .slice b n m] = some (.slice a' (l + n) cap', h') ∧ OM h' (mkNew μ h.next c) c a' cap' te.size (vs ++ new) ∧ l + n ≤ cap' ∧ Chg (· = c) h μ h' (mkNew μ h.next c) := by
  obtain ⟨a', cap', h', e', rest⟩ := appendV_ok (P := P) h2 hz O hl hn ha r1 r2 hcap
  refine ⟨a', cap', h', ?_, rest⟩
  unfold appendB
  simp only
  rw [h1]; simp only
  rw [h2]; simp only [isInt]
  rcases X with ⟨rfl, rfl⟩ | ⟨i, off, rfl, hr⟩
  · have : n = 0 := by
      rcases Nat.eq_zero_or_pos n with x | x
      · exact x
      · have := Nat.mul_pos x hs; simp at hn; omega
    subst this
    simp only [Nat.beq_refl]
    exact e'
  · simp only
    rw [← hn, Sl.rdN hr]
    exact e'
end Go.Abs
end

section
/- Fresh colours. -/
namespace Go.Abs
variable {S : Nat → Prop} {h h' : AW} {μ μ' : Paint} {c : Nat} {P : Program} {a : Option Addr} {cap sz : Nat} {vs : List Value}

/-- A colour that nothing bears as yet. -/
def Fresh (h : AW) (μ : Paint) (c : Nat) : Prop := ∀ i, i < h.next → μ i ≠ c
theorem Chg.fresh (C : Chg (fun k => S k ∨ k = c) h μ h' μ') (hf : Fresh h μ c) (d : Nat) : Chg S h μ h' (mkNew μ h.next d) := by
  refine ⟨C.le, fun i hi => mkNew_old hi, fun i hi hs => ?_, fun i hi hs => ?_, ?_⟩
  · exact C.obj i hi fun x => x.elim hs fun e => hf i hi e
  · exact C.fam i hi fun x => x.elim hs fun e => hf i hi e
  · exact fun i hi => C.ty i hi
theorem OM.fresh {h0 : AW} (O : OM h' μ' c a cap sz vs) (hf : Fresh h0 μ c) (hm : ∀ i, i < h0.next → μ' i = μ i) (d : Nat) : OM h' (mkNew μ h0.next d) d a cap sz vs := by
  refine ⟨O.le, O.one, ?_⟩
  have new : ∀ i, μ' i = c → mkNew μ h0.next d i = d := by
    intro i e
    refine mkNew_new ?_
    rcases Nat.lt_or_ge i h0.next with x | x
    · exact absurd (by rw [← hm i x, e]) (hf i x)
    · exact x
  rcases O.mem with x | ⟨i, off, e, h1, h2, r, k⟩
  · exact .inl x
  · refine .inr ⟨i, off, e, h1, new i h2, r, ?_⟩
    rcases k with x | ⟨f, g, lo, hi, t, ext, frz, h3, h4, h5, h6, h7⟩
    · exact .inl x
    · exact .inr ⟨f, g, lo, hi, t, ext, frz, h3, h4, h5, new f h6, h7⟩
theorem SM.repaint {h0 : AW} (X : SM h' μ' c a vs) (hf : Fresh h0 μ c) (hm : ∀ i, i < h0.next → μ' i = μ i) (d : Nat) : SM h' (mkNew μ h0.next d) d a vs := by
  have new : ∀ i, μ' i = c → mkNew μ h0.next d i = d := by
    intro i e
    refine mkNew_new ?_
    rcases Nat.lt_or_ge i h0.next with x | x
    · exact absurd (by rw [← hm i x, e]) (hf i x)
    · exact x
  rcases X with x | ⟨i, off, e, h1, h2, h3, r⟩
  · exact .inl x
  · refine .inr ⟨i, off, e, h1, new i h2, fun f g lo hi z t hr => ?_, r⟩
    obtain ⟨h4, h5⟩ := h3 f g lo hi z t hr
    exact ⟨h4, new f h5⟩
/-- What bore another colour keeps it. -/
theorem SM.other {h0 : AW} {e d : Nat} (X : SM h' μ' e a vs) (he : ∀ i, i < h'.next → μ' i = e → i < h0.next) (hm : ∀ i, i < h0.next → μ' i = μ i) : SM h' (mkNew μ h0.next d) e a vs := by
  rcases X with x | ⟨i, off, e1, h1, h2, h3, r⟩
  · exact .inl x
  · have hi := he i h1 h2
    refine .inr ⟨i, off, e1, h1, by rw [mkNew_old hi, ← hm i hi, h2], fun f g lo hi z t hr => ?_, r⟩
    obtain ⟨h4, h5⟩ := h3 f g lo hi z t hr
    have hf := he f h4 h5
    exact ⟨h4, by rw [mkNew_old hf, ← hm f hf, h5]⟩
/-- An empty block of no room. -/
theorem OM.empty : OM (h.addVar []) (mkNew μ h.next c) c (some ⟨h.next, 0, none⟩) 0 sz [] :=
  ⟨by simp, rfl, .inr ⟨h.next, 0, rfl, Nat.lt_succ_self _, mkNew_new (Nat.le_refl _), by simp, .inl ⟨_, _, _, T.get?_set_same _ _ _, by simp, fun e => (by cases e)⟩⟩⟩
/-- A new block as a slice. -/
theorem OM.block {l : List Value} {n : Nat} (hl : l.length = n * sz) (ha : allOne l = true) : OM (h.addVar l) (mkNew μ h.next c) c (some ⟨h.next, 0, none⟩) n sz l :=
  ⟨by omega, ha, .inr ⟨h.next, 0, rfl, Nat.lt_succ_self _, mkNew_new (Nat.le_refl _), fun j _ => by rw [Nat.zero_add, addVar_at.rd], .inl ⟨_, _, _, T.get?_set_same _ _ _, by omega, fun e => (by cases e)⟩⟩⟩
end Go.Abs
end

section
/- Named pieces of the heap: what is owned, piece by piece. -/
namespace Go.Abs
variable {S : Nat → Prop} {h h' : AW} {μ μ' : Paint} {P : Program}

inductive Res where
  | var (i : Nat) (l : List Value)
  | sl (a : Option Addr) (cap sz : Nat) (l : List Value)
  | map (i : Nat) (es : List (Value × Value))
  | ro (vs : List (Option Addr × List Value))
  | many (vs : List (Option Addr × Nat × Nat × List Value))
  | bag (vs : List (Option Addr × Nat × Nat × Nat))
  | ty (i : Nat) (t : TypeId)

/-- The family of a row. -/
def famOf (h : AW) (i : Nat) : Option Nat := match h.objs.get? i with
  | some (.row f _ _ _ _ _) => some f
  | _ => none
/-- Rows of one family are one row. -/
def Sep (h : AW) (as : List (Option Addr)) : Prop := ∀ i oi j oj f, some ⟨i, oi, none⟩ ∈ as → some ⟨j, oj, none⟩ ∈ as → famOf h i = some f → famOf h j = some f → i = j
theorem Sep.nil : Sep h [] := fun _ _ _ _ _ h => by simp at h
theorem Sep.one {a : Option Addr} : Sep h [a] := fun i oi j oj f h1 h2 _ _ => by
  simp only [List.mem_singleton] at h1 h2
  rw [← h2] at h1
  cases h1; rfl
theorem Sep.app {c d : Nat} (hcd : c ≠ d) {as bs : List (Option Addr)} (A : ∀ i o f, some ⟨i, o, none⟩ ∈ as → famOf h i = some f → μ f = c) (B : ∀ i o f, some ⟨i, o, none⟩ ∈ bs → famOf h i = some f → μ f = d) (S1 : Sep h as) (S2 : Sep h bs) : Sep h (as ++ bs) := fun i oi j oj f h1 h2 e1 e2 => by
  rcases List.mem_append.1 h1 with x | x <;> rcases List.mem_append.1 h2 with y | y
  · exact S1 i oi j oj f x y e1 e2
  · exact absurd ((A i oi f x e1).symm.trans (B j oj f y e2)) hcd
  · exact absurd ((A j oj f y e2).symm.trans (B i oi f x e1)) hcd
  · exact S2 i oi j oj f x y e1 e2
theorem OM.at_ {c i off cap sz : Nat} {l : List Value} (M : OM h μ c (some ⟨i, off, none⟩) cap sz l) : i < h.next ∧ μ i = c := by
  rcases M.mem with ⟨e, _⟩ | ⟨i', off', e, h1, h2, _⟩
  · cases e
  · cases e; exact ⟨h1, h2⟩
theorem OM.fam {c i off cap sz f : Nat} {l : List Value} (M : OM h μ c (some ⟨i, off, none⟩) cap sz l) (hf : famOf h i = some f) : μ f = c := by
  rcases M.mem with ⟨e, _⟩ | ⟨i', off', e, _, _, _, k⟩
  · cases e
  · cases e
    unfold famOf at hf
    rcases k with ⟨t, n, ro, h1, _⟩ | ⟨f', g, lo, hi, t, ext, frz, h1, _, _, h4, _⟩
    · rw [h1] at hf; cases hf
    · rw [h1] at hf; cases hf; exact h4
theorem Sep.keep {c : Nat} {as : List (Option Addr)} (X : Sep h as) (A : ∀ i o, some ⟨i, o, none⟩ ∈ as → i < h.next ∧ μ i = c) (hs : ¬ S c) (C : Chg S h μ h' μ') : Sep h' as := fun i oi j oj f h1 h2 e1 e2 => by
  have k : ∀ i o, some ⟨i, o, none⟩ ∈ as → famOf h' i = famOf h i := fun i o hm => by
    obtain ⟨a1, a2⟩ := A i o hm
    unfold famOf
    rw [C.obj i a1 (by rw [a2]; exact hs)]
  rw [k i oi h1] at e1
  rw [k j oj h2] at e2
  exact X i oi j oj f h1 h2 e1 e2

def Res.Holds (h : AW) (μ : Paint) (c : Nat) : Res → Prop
  | .var i l => i < h.next ∧ μ i = c ∧ VarAt h i l
  | .sl a cap sz l => OM h μ c a cap sz l
  | .map i es => i < h.next ∧ μ i = c ∧ h.objs.get? i = some (.map es)
  | .ro vs => ∀ a l, (a, l) ∈ vs → SM h μ c a l
  | .many vs => (∀ a cap sz l, (a, cap, sz, l) ∈ vs → OM h μ c a cap sz l) ∧ Sep h (vs.map (·.1))
  | .bag vs => (∀ a cap sz n, (a, cap, sz, n) ∈ vs → ∃ l, l.length = n ∧ OM h μ c a cap sz l) ∧ Sep h (vs.map (·.1))
  | .ty i t => i < h.next ∧ h.tys.get? i = some t

theorem many_at {c : Nat} {vs : List (Option Addr × Nat × Nat × List Value)} (H : ∀ a cap sz l, (a, cap, sz, l) ∈ vs → OM h μ c a cap sz l) : ∀ i o, some ⟨i, o, none⟩ ∈ vs.map (·.1) → i < h.next ∧ μ i = c := fun i o hm => by
  obtain ⟨⟨a, cap, sz, l⟩, h1, e⟩ := List.mem_map.1 hm
  simp only at e
  subst e
  exact (H _ _ _ _ h1).at_
theorem many_fam {c : Nat} {vs : List (Option Addr × Nat × Nat × List Value)} (H : ∀ a cap sz l, (a, cap, sz, l) ∈ vs → OM h μ c a cap sz l) : ∀ i o f, some ⟨i, o, none⟩ ∈ vs.map (·.1) → famOf h i = some f → μ f = c := fun i o f hm hf => by
  obtain ⟨⟨a, cap, sz, l⟩, h1, e⟩ := List.mem_map.1 hm
  simp only at e
  subst e
  exact (H _ _ _ _ h1).fam hf
theorem bag_at {c : Nat} {vs : List (Option Addr × Nat × Nat × Nat)} (H : ∀ a cap sz n, (a, cap, sz, n) ∈ vs → ∃ l, l.length = n ∧ OM h μ c a cap sz l) : ∀ i o, some ⟨i, o, none⟩ ∈ vs.map (·.1) → i < h.next ∧ μ i = c := fun i o hm => by
  obtain ⟨⟨a, cap, sz, l⟩, h1, e⟩ := List.mem_map.1 hm
  simp only at e
  subst e
  obtain ⟨l, _, M⟩ := H _ _ _ _ h1
  exact M.at_
theorem Res.Holds.keep {c : Nat} {r : Res} (H : r.Holds h μ c) (hs : ¬ S c) (C : Chg S h μ h' μ') : r.Holds h' μ' c := by
  cases r with
  | var i l =>
    obtain ⟨a, b, V⟩ := H
    exact ⟨Nat.lt_of_lt_of_le a C.le, by rw [C.mark i a, b], V.keep a (by rw [b]; exact hs) C⟩
  | sl a cap sz l => exact OM.keep H hs C
  | map i es =>
    obtain ⟨a, b, V⟩ := H
    exact ⟨Nat.lt_of_lt_of_le a C.le, by rw [C.mark i a, b], by rw [C.obj i a (by rw [b]; exact hs), V]⟩
  | ro vs => exact fun a l hm => SM.keep (H a l hm) hs C
  | many vs => exact ⟨fun a cap sz l hm => OM.keep (H.1 a cap sz l hm) hs C, H.2.keep (many_at H.1) hs C⟩
  | bag vs => exact ⟨fun a cap sz n hm => let ⟨l, h1, h2⟩ := H.1 a cap sz n hm; ⟨l, h1, OM.keep h2 hs C⟩, H.2.keep (bag_at H.1) hs C⟩
  | ty i t => exact ⟨Nat.lt_of_lt_of_le H.1 C.le, by rw [C.ty i H.1]; exact H.2⟩

/-- Names of pieces. -/
abbrev Store := Nat → Option Res
def Store.upd (ρ : Store) (c : Nat) (r : Res) : Store := fun d => if d = c then some r else ρ d
theorem upd_same {ρ : Store} {c : Nat} {r : Res} : ρ.upd c r c = some r := by simp [Store.upd]
theorem upd_ne {ρ : Store} {c d : Nat} {r : Res} (h : d ≠ c) : ρ.upd c r d = ρ d := by simp [Store.upd, h]
theorem upd_upd {ρ : Store} {c : Nat} {r r' : Res} : (ρ.upd c r).upd c r' = ρ.upd c r' := by
  funext d; unfold Store.upd; split <;> rfl
theorem upd_self {ρ : Store} {c : Nat} {r : Res} (h : ρ c = some r) : ρ.upd c r = ρ := by
  funext d; unfold Store.upd; split
  · rename_i e; subst e; exact h.symm
  · rfl
/-- What is there is not what is new. -/
theorem name_ne {ρ : Store} {c d : Nat} {r : Res} (hc : ρ c = none) (hd : ρ d = some r) : d ≠ c := by
  rintro rfl; rw [hc] at hd; cases hd
theorem upd_old {ρ : Store} {c d : Nat} {r r' : Res} (hc : ρ c = none) (hd : ρ d = some r') : ρ.upd c r d = some r' := by
  rw [upd_ne (name_ne hc hd), hd]

structure Own (h : AW) (μ : Paint) (ρ : Store) : Prop where
  fin : ∃ N, ∀ c, N ≤ c → ρ c = none
  holds : ∀ c r, ρ c = some r → r.Holds h μ c

variable {ρ ρ' : Store} {c : Nat}
theorem Own.fresh (O : Own h μ ρ) : ∃ c, ρ c = none := by
  obtain ⟨N, hN⟩ := O.fin
  exact ⟨N, hN N (Nat.le_refl _)⟩
/-- A piece turned. -/
theorem Own.step (O : Own h μ ρ) {r : Res} (C : Chg (· = c) h μ h' μ') (H : r.Holds h' μ' c) : Own h' μ' (ρ.upd c r) := by
  refine ⟨?_, fun d r' hd => ?_⟩
  · obtain ⟨N, hN⟩ := O.fin
    refine ⟨Nat.max N (c + 1), fun d hd => ?_⟩
    have h1 : N ≤ d := Nat.le_trans (Nat.le_max_left _ _) hd
    have h2 : c + 1 ≤ d := Nat.le_trans (Nat.le_max_right _ _) hd
    rw [upd_ne (by omega)]; exact hN d h1
  · by_cases e : d = c
    · subst e; rw [upd_same] at hd; cases hd; exact H
    · rw [upd_ne e] at hd
      exact (O.holds d r' hd).keep e C
/-- Fewer names. -/
theorem Own.mono (O : Own h μ ρ) (hs : ∀ d r, ρ' d = some r → ρ d = some r) : Own h μ ρ' := by
  refine ⟨?_, fun d r hd => O.holds d r (hs d r hd)⟩
  obtain ⟨N, hN⟩ := O.fin
  refine ⟨N, fun d hd => ?_⟩
  cases hx : ρ' d with
  | none => rfl
  | some r => have := hs d r hx; rw [hN d hd] at this; cases this
theorem Own.drop {r : Res} (O : Own h μ (ρ.upd c r)) (hc : ρ c = none) : Own h μ ρ := O.mono fun d r' hd => upd_old hc hd
theorem Own.quiet (O : Own h μ ρ) (C : Chg (fun _ => False) h μ h' μ') : Own h' μ' ρ := ⟨O.fin, fun d r hd => (O.holds d r hd).keep (fun x => x) C⟩

/-! Blocks. -/
theorem Own.rd (O : Own h μ ρ) {i : Nat} {l : List Value} (hc : ρ c = some (.var i l)) (j : Nat) : h.rd i j = l[j]? := (O.holds _ _ hc).2.2.rd j
theorem o_rd (O : Own h μ ρ) {i j : Nat} {l : List Value} {v : Value} {f : Value → Prop} (hc : ρ c = some (.var i l)) (hv : l[j]? = some v) (H : f v) : oB (h.rd i j) f := by
  rw [O.rd hc, hv]; exact H
theorem o_wr (O : Own h μ ρ) {i j : Nat} {l : List Value} {v : Value} {f : AW → Prop} (hc : ρ c = some (.var i l)) (hj : j < l.length) (h1 : oneCell v = true)
    (H : ∀ h', Own h' μ (ρ.upd c (.var i (l.set j v))) → f h') : oB (h.wr i j v) f := by
  obtain ⟨a, b, V⟩ := O.holds _ _ hc
  obtain ⟨h', e, V', C, n⟩ := V.chg (S := (· = c)) hj h1 b
  rw [e]
  exact H h' (O.step C ⟨by rw [n]; exact a, b, V'⟩)
def setAll (l : List Value) (j : Nat) : List Value → List Value
  | [] => l
  | v :: vs => setAll (l.set j v) (j + 1) vs
theorem o_wrL {i : Nat} : ∀ (vs : List Value) {h : AW} {ρ : Store} {l : List Value} {j : Nat} {f : AW → Prop}, Own h μ ρ → ρ c = some (.var i l) → j + vs.length ≤ l.length → allOne vs = true →
    (∀ h', Own h' μ (ρ.upd c (.var i (setAll l j vs))) → f h') → oB (h.wrL i j vs) f
  | [], h, ρ, l, j, f, O, hc, _, _, H => H h (by rw [setAll, upd_self hc]; exact O)
  | v :: vs, h, ρ, l, j, f, O, hc, hj, ha, H => by
    simp only [allOne] at ha
    split at ha
    · rename_i h1
      simp only [List.length_cons] at hj
      obtain ⟨a, b, V⟩ := O.holds _ _ hc
      obtain ⟨h', e, V', C, n⟩ := V.chg (S := (· = c)) (j := j) (by omega) h1 b
      have O' := O.step (r := .var i (l.set j v)) C ⟨by rw [n]; exact a, b, V'⟩
      have := o_wrL vs (f := f) O' upd_same (j := j + 1) (by simp; omega) ha (fun h2 O2 => H h2 (by rw [upd_upd] at O2; exact O2))
      simp only [AW.wrL, e]
      exact this
    · cases ha
theorem o_addVar (O : Own h μ ρ) (c : Nat) {l : List Value} : Own (h.addVar l) (mkNew μ h.next c) (ρ.upd c (.var h.next l)) :=
  O.step addVar_chg ⟨Nat.lt_succ_self _, mkNew_new (Nat.le_refl _), addVar_at⟩
/-- A new block that is a slice. -/
theorem o_block (O : Own h μ ρ) (c : Nat) {l : List Value} {n sz : Nat} (hl : l.length = n * sz) (ha : allOne l = true) : Own (h.addVar l) (mkNew μ h.next c) (ρ.upd c (.sl (some ⟨h.next, 0, none⟩) n sz l)) :=
  O.step addVar_chg (OM.block hl ha)
/-- A block that is nothing but garbage. -/
theorem o_junk (O : Own h μ ρ) {l : List Value} : ∃ μ', Own (h.addVar l) μ' ρ := ⟨_, O.quiet (addVar_chg (c := 0))⟩

/-! Slices. -/
theorem Own.sl (O : Own h μ ρ) {a : Option Addr} {cap sz : Nat} {l : List Value} (hc : ρ c = some (.sl a cap sz l)) : Sl h a l := OM.sl (O.holds _ _ hc)
theorem Own.ro (O : Own h μ ρ) {a : Option Addr} {l : List Value} {vs : List (Option Addr × List Value)} (hc : ρ c = some (.ro vs)) (hm : (a, l) ∈ vs) : Sl h a l := (O.holds _ _ hc a l hm).sl
/-- An element's place. -/
theorem Sl.ix {a : Option Addr} {l : List Value} (X : Sl h a l) {z : Int} {j n sz : Nat} (hz : z = j) (hn : l.length = n * sz) (h0 : 0 < sz) (hj : j < n) {f : Nat → Nat → Nat → Prop}
    (H : ∀ i off, a = some ⟨i, off, none⟩ → (∀ k, k < sz → h.rd i (off + j * sz + k) = l[j * sz + k]?) → f i off j) : aP a fun i off => oB (natIdx z n) fun j => f i off j := by
  subst hz
  have hlt : ∀ k, k < sz → j * sz + k < l.length := fun k hk => by
    have : (j + 1) * sz ≤ n * sz := Nat.mul_le_mul_right _ hj
    rw [Nat.add_mul, Nat.one_mul] at this; omega
  rcases X with ⟨rfl, rfl⟩ | ⟨i, off, rfl, hr⟩
  · have := hlt 0 h0; simp at this
  · simp only [aP_some]
    rw [natIdx_eq hj]
    exact H i off rfl fun k hk => by rw [Nat.add_assoc]; exact hr _ (hlt k hk)
/-- An element of one cell. -/
theorem Sl.i1 {a : Option Addr} {l : List Value} (X : Sl h a l) {z : Int} {j n : Nat} {v : Value} (hz : z = j) (hn : n = l.length) (hv : l[j]? = some v) {f : Value → Prop} (H : f v) : aP a fun i off => oB (natIdx z n) fun j => oB (h.rd i (off + j * 1)) f := X.at1 hz hn hv H
/-- A write in place. -/
theorem o_sl_wr (O : Own h μ ρ) {i off j cap sz : Nat} {l : List Value} {v : Value} {f : AW → Prop} (hc : ρ c = some (.sl (some ⟨i, off, none⟩) cap sz l)) (hj : j < l.length) (h1 : oneCell v = true)
    (H : ∀ h', Own h' μ (ρ.upd c (.sl (some ⟨i, off, none⟩) cap sz (l.set j v))) → f h') : oB (h.wr i (off + j) v) f := by
  have M : OM h μ c _ cap sz l := O.holds _ _ hc
  obtain ⟨h', e, M', C, n⟩ := M.wr (j := j) (Nat.lt_of_lt_of_le hj M.le) (Nat.le_of_lt hj) h1
  rw [if_pos hj] at M'
  rw [e]
  exact H h' (O.step C M')
/-- An element of one cell, written. -/
theorem o_i1_wr (O : Own h μ ρ) {a : Option Addr} {cap : Nat} {l : List Value} (hc : ρ c = some (.sl a cap 1 l)) {z : Int} {j n : Nat} {v : Value} (hz : z = j) (hn : n = l.length) (hj : j < l.length) (h1 : oneCell v = true) {f : AW → Prop}
    (H : ∀ h', Own h' μ (ρ.upd c (.sl a cap 1 (l.set j v))) → f h') : aP a fun i off => oB (natIdx z n) fun j => oB (h.wr i (off + j * 1) v) f := by
  refine (O.sl hc).ix (sz := 1) hz (by omega) (by omega) (by omega) fun i off e _ => ?_
  subst e
  rw [Nat.mul_one]
  exact o_sl_wr O hc hj h1 H
/-- append. -/
theorem o_app (O : Own h μ ρ) {ty e : TypeId} {te : TI} {ag : Bool} {s1 b1 : Nat} {z1 : Option Value} (h1 : tiOf P ty = some ⟨.slice e, ag, s1, b1, z1⟩) (h2 : tiOf P e = some te) (hz : te.zero.isSome = true) (hs : 0 < te.size)
    {a : Option Addr} {cap : Nat} {l : List Value} (hc : ρ c = some (.sl a cap te.size l)) {n m k : Nat} (hl : l.length = n * te.size) {b : Option Addr} {new : List Value} (X : Sl h b new) (hn : new.length = m * te.size) (ha : allOne new = true)
    (r1 : (n + m) * te.bytes ≤ 70368744177664) (r2 : n + m ≤ 4611686018427387904) {f : Value → AW → Prop}
    (H : ∀ a' cap' h' μ', Own h' μ' (ρ.upd c (.sl a' cap' te.size (l ++ new))) → f (.slice a' (n + m) cap') h') : oP (appendB P h ⟨[ty, ty]⟩ [.slice a n cap, .slice b m k]) f := by
  have M : OM h μ c a cap te.size l := O.holds _ _ hc
  have hcap : n ≤ cap := by
    have := M.le; rw [hl] at this
    exact Nat.le_of_mul_le_mul_right this hs
  obtain ⟨a', cap', h', e', M', _, C⟩ := appendB_ok (P := P) (m := k) h1 h2 hz hs M hl X hn ha r1 r2 hcap
  rw [e']
  exact H a' cap' h' _ (O.step C M')

end Go.Abs
end

section
/- Lists of blocks of equal length; small words on strings and slices. -/
namespace Go.Abs

section
variable {α β : Type} {f : α → List β} {sz : Nat}
theorem flat_len (hf : ∀ x, (f x).length = sz) : ∀ l : List α, (l.flatMap f).length = l.length * sz
  | [] => by simp
  | x :: l => by rw [List.flatMap_cons, List.length_append, hf, flat_len hf l, List.length_cons, Nat.add_mul]; omega
end

abbrev Str := ByteArray
abbrev e0 : Str := ⟨#[]⟩
abbrev strs (l : List Str) : List Value := l.map Value.string
abbrev big : Nat := 1000000000
theorem wrapS {j : Nat} (h : j < 4611686018427387904) : IntKind.wrap .i64 ((j : Int) + 1) = ((j + 1 : Nat) : Int) := by
  have := wrap_small (n := (j : Int) + 1) (by omega) (by omega)
  rw [this]; omega
theorem wrap_sm {n : Int} (h1 : -2000000000 ≤ n) (h2 : n ≤ 2000000000) : IntKind.wrap .i64 n = n := wrap_small (Int.le_trans (by decide) h1) (Int.lt_of_le_of_lt h2 (by decide))
theorem ltI {j n : Nat} (h : j < n) : decide ((j : Int) < (n : Int)) = true := by simp; omega
theorem geI {j n : Nat} (h : n ≤ j) : decide ((j : Int) < (n : Int)) = false := by simp; omega
theorem allOne_strs {l : List Str} : allOne (strs l) = true := allOne_of fun v hv => by
  obtain ⟨s, _, rfl⟩ := List.mem_map.1 hv
  rfl
def memB (s : Str) (x : List Str) : Bool := x.any fun t => bEq s t
theorem memB_iff {s : Str} {x : List Str} : memB s x = true ↔ s ∈ x := by
  unfold memB
  rw [List.any_eq_true]
  exact ⟨fun ⟨t, ht, e⟩ => by rw [bEq_iff.1 e]; exact ht, fun h => ⟨s, h, bEq_self⟩⟩
instance decMemStr (s : ByteArray) (x : List ByteArray) : Decidable (s ∈ x) := decidable_of_iff (memB s x = true) memB_iff
end Go.Abs
end
