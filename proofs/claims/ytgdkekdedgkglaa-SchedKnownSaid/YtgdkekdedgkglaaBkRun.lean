/- The deterministic heap semantics: regions, code, calls. -/
import Derived.Test.YtgdkekdedgkglaaBkAbs
namespace Go.Abs
variable (P : Program)

/-- What a call of a function value comes to: the function and its arguments. -/
def target (F : Fr) (c : Call) : Option (FuncId × List Value) :=
  match c.callee with
  | .value f => match F.ev f with
    | .func (.func f) first captured => some (f, first.toList ++ (vals F c.args ++ captured.toList))
    | _ => none
  | _ => none

inductive Ex where
  | normal
  | exit (id : Nat)
  | ret

def guardOk (ops : List Oper) (F : Fr) (o : Oper) : Option Bool :=
  match o.guard with
  | none => some true
  | some (j, want) => match ops[j]? with
    | some oj => match oj.dst with
      | some d => match F.t.get? d with
        | some (.bool b) => some (b == want)
        | _ => some false
      | none => some false
    | none => some false

def stepOp (call : FuncId → List Value → AW → Option (Value × AW)) (ops : List Oper) (o : Oper) (F : Fr) (h : AW) : Option (Fr × AW) :=
  match guardOk ops F o with
  | some true =>
    match (match o.op with
      | .call { callee := .value f, args, argTypes } => match target F { callee := .value f, args, argTypes } with
        | some (f, args) => call f args h
        | none => none
      | op => opV P F h op) with
    | some (v, h) => match F.put o.dst v with | some F => some (F, h) | none => none
    | none => none
  | some false => match F.put o.dst undef with | some F => some (F, h) | none => none
  | none => none

def runOps (call : FuncId → List Value → AW → Option (Value × AW)) (ops : List Oper) : List Oper → Fr → AW → Option (Fr × AW)
  | [], F, h => some (F, h)
  | o :: l, F, h => match stepOp P call ops o F h with
    | some (F, h) => runOps call ops l F h
    | none => none

/-! A region whose order is open: the text's own order is run, and it is held that every other order comes to the same. -/

/-- Equality of two values, sure where it says yes. -/
def beqV : Nat → Value → Value → Bool
  | _, .bool a, .bool b => a == b
  | _, .int k a, .int k' b => decide (k = k') && a == b
  | _, .string a, .string b => a.data.toList == b.data.toList
  | _, .pointer a, .pointer b => decide (a = b)
  | _, .slice a l c, .slice b l' c' => decide (a = b) && Nat.beq l l' && Nat.beq c c'
  | _, .map a, .map b => decide (a = b)
  | _, .nilFunc, .nilFunc => true
  | _, .nilIface, .nilIface => true
  | n + 1, .iface t v, .iface t' v' => Nat.beq t t' && beqV n v v'
  | n + 1, .agg a, .agg b => go n a.toList b.toList
  | n + 1, .tuple a, .tuple b => go n a.toList b.toList
  | n + 1, .func f a b, .func f' a' b' => decide (f = f') && go n a.toList a'.toList && go n b.toList b'.toList
  | _, _, _ => false
  where
  go (n : Nat) : List Value → List Value → Bool
    | [], [] => true
    | x :: xs, y :: ys => beqV n x y && go n xs ys
    | _, _ => false

def tmpsOf : List Operand → List Nat
  | [] => []
  | .tmp t :: l => t :: tmpsOf l
  | _ :: l => tmpsOf l

/-- The slots that an operation looks at. -/
def readsOf (ops : List Oper) (o : Oper) : List Nat :=
  tmpsOf o.op.operands.toList ++ (match o.guard with
    | none => []
    | some (j, _) => match ops[j]? with
      | some oj => match oj.dst with | some d => [d] | none => []
      | none => [])

def maskOf (acc : List Nat) : List Edge → Nat
  | [] => 0
  | e :: l => match Region.binds .any e with
    | true => (2 ^ e.on ||| acc.getD e.on 0) ||| maskOf acc l
    | false => maskOf acc l

/-- For each operation the set of those that any order lists ahead of it. -/
def masks : List Oper → List Nat → List Nat
  | [], acc => acc
  | o :: l, acc => masks l (acc ++ [maskOf acc o.after.toList])

def bef (M : List Nat) (i j : Nat) : Bool := (M.getD j 0).testBit i

def pairOk (M : List Nat) (ops : List Oper) (i : Nat) (oi : Oper) (j : Nat) (oj : Oper) : Bool :=
  match Nat.beq i j with
  | true => true
  | false => match oi.dst with
    | none => true
    | some d => !decide (oj.dst = some d) && (!(readsOf ops oj).contains d || (match Nat.ble (i + 1) j with | true => bef M i j | false => bef M j i))

def rowOk (M : List Nat) (ops : List Oper) (j : Nat) (oj : Oper) : Nat → List Oper → Bool
  | _, [] => true
  | i, oi :: l => pairOk M ops i oi j oj && rowOk M ops j oj (i + 1) l

def edgesOk (j : Nat) : List Edge → Bool
  | [] => true
  | e :: l => (!Region.binds .any e || Nat.ble (e.on + 1) j) && edgesOk j l

def allRows (M : List Nat) (ops : List Oper) : Nat → List Oper → Bool
  | _, [] => true
  | j, oj :: l => rowOk M ops j oj 0 ops && edgesOk j oj.after.toList && allRows M ops (j + 1) l

def staticOk (ops : List Oper) : Bool := allRows (masks ops []) ops 0 ops

structure St where
  o : Oper
  F : Fr
  h : AW
  want : Bool
  act : Option AW
  v : Value

def actV (call : FuncId → List Value → AW → Option (Value × AW)) (F : Fr) (h : AW) (o : Oper) : Option (Value × AW) :=
  match o.op with
  | .call { callee := .value f, args, argTypes } => match target F { callee := .value f, args, argTypes } with
    | some (f, args) => call f args h
    | none => none
  | op => opA P F h op

def traceOps (call : FuncId → List Value → AW → Option (Value × AW)) (ops : List Oper) : List Oper → Fr → AW → Option (List St × Fr × AW)
  | [], F, h => some ([], F, h)
  | o :: l, F, h =>
    match guardOk ops F o with
    | none => none
    | some false => match F.put o.dst undef with
      | some F' => match traceOps call ops l F' h with
        | some (tr, r) => some (⟨o, F, h, false, none, undef⟩ :: tr, r)
        | none => none
      | none => none
    | some true => match opQ P F h o.op with
      | some v => match F.put o.dst v with
        | some F' => match traceOps call ops l F' h with
          | some (tr, r) => some (⟨o, F, h, true, none, v⟩ :: tr, r)
          | none => none
        | none => none
      | none => match actV P call F h o with
        | some (v, h') => match F.put o.dst v with
          | some F' => match traceOps call ops l F' h' with
            | some (tr, r) => some (⟨o, F, h, true, some h', v⟩ :: tr, r)
            | none => none
          | none => none
        | none => none

def acts : Nat → List St → List (Nat × AW)
  | _, [] => []
  | k, s :: l => match s.act with
    | some h => (k, h) :: acts (k + 1) l
    | none => acts (k + 1) l

def chainOk (M : List Nat) : List (Nat × AW) → Bool
  | [] => true
  | (i, _) :: l => (match l with | [] => true | (j, _) :: _ => bef M i j) && chainOk M l

def noneBef (M : List Nat) (j : Nat) : List (Nat × AW) → Bool
  | [] => true
  | (i, _) :: l => !bef M i j && noneBef M j l

/-- Does a quiet operation say the same wherever it may stand among those that turn the heap? -/
def chkFrom (M : List Nat) (j : Nat) (check : AW → Bool) : AW → List (Nat × AW) → Bool
  | h, As => (!noneBef M j As || check h) && (match As with
    | [] => true
    | (i, h') :: l => bef M j i || chkFrom M j check h' l)

def stOk (M : List Nat) (h : AW) (As : List (Nat × AW)) (j : Nat) (s : St) : Bool :=
  match s.act, s.want with
  | none, true => chkFrom M j (fun h => match opQ P s.F h s.o.op with | some v => beqV 8 v s.v | none => false) h As
  | _, _ => true

def stsOk (M : List Nat) (h : AW) (As : List (Nat × AW)) : Nat → List St → Bool
  | _, [] => true
  | j, s :: l => stOk P M h As j s && stsOk M h As (j + 1) l

def runDrawn (call : FuncId → List Value → AW → Option (Value × AW)) (ops : Array Oper) (F : Fr) (h : AW) : Option (Fr × AW) :=
  match staticOk ops.toList with
  | false => none
  | true => match traceOps P call ops.toList ops.toList F h with
    | some (tr, F', h') => match chainOk (masks ops.toList []) (acts 0 tr) && stsOk P (masks ops.toList []) h (acts 0 tr) 0 tr with
      | true => some (F', h')
      | false => none
    | none => none

def run (call : FuncId → List Value → AW → Option (Value × AW)) : Nat → Code → Fr → AW → Option (Ex × Fr × AW)
  | 0, _, _, _ => none
  | n + 1, c, F, h =>
    match c with
    | .skip | .label _ => some (.normal, F, h)
    | .region _ ops draw => match draw with
      | false => match runOps P call ops.toList ops.toList F h with
        | some (F, h) => some (.normal, F, h)
        | none => none
      | true => match runDrawn P call ops F h with
        | some (F, h) => some (.normal, F, h)
        | none => none
    | .seq a b => match run call n a F h with
      | some (.normal, F, h) => run call n b F h
      | r => r
    | .cond c x y => match F.ev c with
      | .bool true => run call n x F h
      | .bool false => run call n y F h
      | _ => none
    | .block id b => match run call n b F h with
      | some (.exit j, F, h) => match Nat.beq j id with
        | true => some (.normal, F, h)
        | false => some (.exit j, F, h)
      | r => r
    | .loop b => match run call n b F h with
      | some (.normal, F, h) => run call n (.loop b) F h
      | r => r
    | .exit id => some (.exit id, F, h)
    | .scope b => run call n b F h
    | .ret => some (.ret, F, h)
    | _ => none

def resultV (F : Fr) (h : AW) : ResultVar → Option Value
  | .tmp t => some (match F.t.get? t with | some v => v | none => undef)
  | .cell a t => loadV P h t (match F.t.get? a with | some v => v | none => undef)

def resultL (F : Fr) (h : AW) : List ResultVar → Option (List Value)
  | [] => some []
  | r :: l => match resultV P F h r with
    | some v => match resultL F h l with | some r => some (v :: r) | none => none
    | none => none

def operandOk (G : Nat) : Operand → Bool
  | .const v => flat v
  | .global g => Nat.ble (g + 1) G
  | _ => true

def operandsOk (G : Nat) : List Operand → Bool
  | [] => true
  | x :: l => operandOk G x && operandsOk G l

def opersOk (G : Nat) : List Oper → Bool
  | [] => true
  | o :: l => operandsOk G o.op.operands.toList && opersOk G l

def codeOk (G : Nat) : Code → Bool
  | .region _ ops _ => opersOk G ops.toList
  | .seq a b => codeOk G a && codeOk G b
  | .cond c x y => operandOk G c && codeOk G x && codeOk G y
  | .block _ b => codeOk G b
  | .loop b => codeOk G b
  | .scope b => codeOk G b
  | _ => true

/-- A function with a body: no constant of it holds memory. -/
def bodyOf (f : FuncId) : Option (Func × Code) :=
  match P.funcs[f]? with
  | some fn => match fn.body with
    | some c => match codeOk P.globals.size c && !(fn.name == "runtime.NumGoroutine") && P.follows .mixedOrders with
      | true => some (fn, c)
      | false => none
    | none => none
  | none => none

def callF : Nat → FuncId → List Value → AW → Option (Value × AW)
  | 0, _, _, _ => none
  | n + 1, f, args, h =>
    match bodyOf P f with
    | some (fn, c) => match run P (callF n) n c { n := Nat.max args.length fn.ntmps, t := T.ofList args } h with
      | some (.exit _, _, _) => none
      | some (_, F, h) => match resultL P F h fn.results.toList with
        | some [v] => some (v, h)
        | some vs => some (.tuple ⟨vs⟩, h)
        | none => none
      | none => none
    | none => none

end Go.Abs
