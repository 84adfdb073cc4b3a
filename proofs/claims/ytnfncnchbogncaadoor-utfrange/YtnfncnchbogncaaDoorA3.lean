/- Part of the proof by the abstract machine: no claim of its own. -/
import Derived.Test.YtnfncnchbogncaaDoorA2
set_option linter.unusedSimpArgs false
set_option linter.unusedVariables false
set_option linter.unnecessarySimpa false
set_option linter.unusedSectionVars false
/- The abstract machine, part 3: regions whose order is open; functions; what a program's text must be like. -/
set_option linter.unusedVariables false
namespace Go.Amb

/-! ### A region whose order is open: what only reads, or makes memory, goes first -/
def eqAddr (a b : Option Addr) : Bool := match a, b with
  | none, none => true
  | some a, some b => Nat.beq a.block b.block && Nat.beq a.off b.off && a.spot == b.spot
  | _, _ => false
def eqV1 : Value → Value → Bool
  | .bool a, .bool b => a == b
  | .int k a, .int k' b => ikEq k k' && a == b
  | .string a, .string b => strEq a b
  | .pointer a, .pointer b => eqAddr a b
  | .slice a l c, .slice b l' c' => eqAddr a b && Nat.beq l l' && Nat.beq c c'
  | .map a, .map b => a == b
  | .nilFunc, .nilFunc => true
  | .nilIface, .nilIface => true
  | _, _ => false
def eqL1 : List Value → List Value → Bool
  | [], [] => true
  | a :: x, b :: y => eqV1 a b && eqL1 x y
  | _, _ => false
def eqV : Value → Value → Bool
  | .agg a, .agg b => eqL1 a.toList b.toList
  | .tuple a, .tuple b => eqL1 a.toList b.toList
  | .func (.func f) a c, .func (.func g) b d => Nat.beq f g && eqL1 a.toList b.toList && eqL1 c.toList d.toList
  | a, b => eqV1 a b
/-! What is known of each operation: the ones that stand ahead of it by edges, as a mask. -/
def bsAt (bs : List Nat) (o : Oper) : Nat := o.after.toList.foldl (fun s e => match Region.binds .any e with
  | true => s ||| (2 ^ e.on ||| bs.getD e.on 0)
  | false => s) 0
def befs : List Oper → List Nat → List Nat
  | [], acc => acc
  | o :: r, acc => befs r (acc ++ [bsAt acc o])
/-- Does it write, or lay a new object? -/
def isEv (o : Oper) : Bool := match cls o.op with
  | .write | .alloc => true
  | _ => false
/-- In which tier it is carried out: what only reads goes first, then what makes memory. -/
def tier (o : Oper) : Nat := match cls o.op with
  | .write => 2
  | .alloc => 1
  | _ => 0
def pick1 (bs ws : List Nat) (done : Nat) (w : Nat) : Nat → Option Nat
  | 0 => none
  | n + 1 => match pick1 bs ws done w n with
    | some i => some i
    | none => match !done.testBit n && Nat.beq (bs.getD n 0 &&& done) (bs.getD n 0) && Nat.beq (ws.getD n 0) w with
      | true => some n
      | false => none
def order (bs ws : List Nat) : Nat → Nat → List Nat
  | 0, _ => []
  | f + 1, done => match (pick1 bs ws done 0 bs.length).or ((pick1 bs ws done 1 bs.length).or (pick1 bs ws done 2 bs.length)) with
    | some i => i :: order bs ws f (done ||| 2 ^ i)
    | none => []

def rety : KV := fun v h => some (.ret v h)
def nopan : KV := fun _ _ => none
/-! Memory that is made of what the operands tell alone may be laid in advance. -/
def isAl (o : Oper) : Bool := match o.op with
  | .alloc _ | .box _ _ | .buildSlice _ _ _ => true
  | _ => false
def alC (E : Env) (tm : PT Value) : Op → Option (List Value × TypeId)
  | .alloc t => ob (E.ti.get t) fun i => some (i.zero.cells.toList, t)
  | .box t x => some ((opnd tm x).cells.toList, t)
  | .buildSlice t n ps => ob (E.ti.get t) fun i => match i.d with
    | .slice e => ob (E.ti.get e) fun j => match Nat.ble (n * j.lk.length) 16777216 with
      | true => ob (fillL (fun q => some (q * j.lk.length, j.lk.length)) (repL j.zero.cells.toList n) (ps.toList.map fun p => (p.1, opnd tm p.2))) fun l => some (l, e)
      | false => none
    | _ => none
  | _ => none
def blkOf : Value → Option Nat
  | .slice (some a) _ _ => some a.block
  | .pointer (some a) => some a.block
  | _ => none
/-- What was laid is still so. -/
def still (E : Env) (tm : PT Value) (op : Op) (v : Value) (h : AHeap) : Bool := match alC E tm op, blkOf v with
  | some p, some n => match h.get n with
    | .cells vs e none false => eqL1 p.1 vs && Nat.beq p.2 e
    | _ => false
  | _, _ => false
/-- What was carried out ahead of an event, and need not have been, is as if it were carried out behind it. -/
def recheck (E : Env) (call : Call) (ops : Array Oper) (mask : Nat) (h' : AHeap) (cont : Option Ans) : List (Nat × PT Value × Value) → Option Ans
  | [] => cont
  | x :: r => match mask.testBit x.1 with
    | true => recheck E call ops mask h' cont r
    | false => ob ops[x.1]? fun o => match isAl o with
      | true => match still E x.2.1 o.op x.2.2 h' with
        | true => recheck E call ops mask h' cont r
        | false => none
      | false => ans (evOp E call o.op x.2.1 h' rety nopan) (fun v _ => match eqV v x.2.2 with
        | true => recheck E call ops mask h' cont r
        | false => none) (fun _ _ => none)
def evDr (E : Env) (call : Call) (ops : Array Oper) (bs : List Nat) : List Nat → Bool → List (Nat × PT Value × Value) → PT Value → AHeap → KX → Option Ans
  | [], _, _, tm, h, k => k .normal tm h
  | i :: rest, ho, fl, tm, h, k => ob ops[i]? fun o => evGuard ops o tm
    (fun tm => ans (evOp E call o.op tm h rety nopan) (fun v h' => match isEv o with
      | true => match ho && isAl o with
        | true => recheck E call ops 0 h' (evDr E call ops bs rest true ((i, tm, v) :: fl) (put tm o.dst v) h' k) ((i, tm, v) :: fl)
        | false => recheck E call ops (bs.getD i 0) h' (evDr E call ops bs rest false fl (put tm o.dst v) h' k) fl
      | false => evDr E call ops bs rest ho ((i, tm, v) :: fl) (put tm o.dst v) h' k) (fun _ _ => none))
    (fun tm => evDr E call ops bs rest (ho && (isAl o || !isEv o)) fl (put tm o.dst undef) h k)

/-- The slots that an operation names. -/
def namesOf (ops : Array Oper) (o : Oper) : List Tmp :=
  (o.op.operands.toList.filterMap fun | .tmp t => some t | _ => none) ++ (match o.guard with
    | none => []
    | some (j, _) => (gslot ops j).toList)
/-- Two operations of which one writes a slot that the other names, or both the same: in one order. -/
def clash (ops : Array Oper) (x y : Oper) : Bool :=
  (match x.dst with
    | none => false
    | some d => (namesOf ops y).contains d || y.dst == some d) ||
  (match y.dst with
    | none => false
    | some d => (namesOf ops x).contains d)
def rowsOk (ops : Array Oper) (bs : List Nat) : Nat → Bool
  | 0 => true
  | j + 1 => rowsOk ops bs j && (List.range j).all fun i => (bs.getD j 0).testBit i || (match ops[i]?, ops[j]? with
    | some x, some y => !clash ops x y
    | _, _ => false)
/-- Edges that bind lead back; the masks are theirs. -/
def backOk (ops : Array Oper) (bs : List Nat) : Bool := (List.range ops.size).all fun j => match ops[j]? with
  | none => false
  | some o => Nat.beq (bs.getD j 0) (bsAt bs o) && o.after.toList.all fun e => match Region.binds .any e with
    | true => Nat.blt e.on j
    | false => true
/-- The order: each is there once, behind all that stand ahead of it by edges; and each event, but for memory that is laid in advance, stands ahead, by edges, of all that follow. -/
def ordOk (ops : Array Oper) (bs : List Nat) : List Nat → Bool → List Nat → List Nat → Bool
  | [], _, _, _ => true
  | i :: r, ho, done, evs => (!done.contains i) && Nat.blt i ops.size && ((List.range ops.size).all fun j => !(bs.getD i 0).testBit j || done.contains j) && (evs.all fun e => (bs.getD i 0).testBit e) &&
    (match ops[i]? with
      | some o => ordOk ops bs r (ho && (isAl o || !isEv o)) (i :: done) (cond (isEv o && !(ho && isAl o)) (i :: evs) evs)
      | none => false)
def regOk (ops : Array Oper) (bs : List Nat) (od : List Nat) : Bool :=
  backOk ops bs && rowsOk ops bs ops.size && Nat.beq od.length ops.size && ordOk ops bs od true [] [] && (List.range ops.size).all fun i => od.contains i
abbrev Dr := PT (List Nat × List Nat)
def evDraw (E : Env) (call : Call) (D : Dr) (id : Nat) (ops : Array Oper) (tm : PT Value) (h : AHeap) (k : KX) : Option Ans :=
  ob (D.get id) fun p => evDr E call ops p.1 p.2 true [] tm h k
def drOf (E : Env) (f : FuncId) : Dr := match E.dr.get f with
  | some D => D
  | none => .leaf

/-! ### Functions -/
def evF (E : Env) (X : Call) : Nat → FuncId → List Value → AHeap → Option Ans
  | 0, _, _, _ => none
  | n + 1, f, args, h => match E.ext.get f with
    | none => ob (E.fn.get f) fun fn => ob fn.body fun c => evCode E (evF E X n) (evDraw E (evF E X n) (drOf E f)) n c (tm0 args 0 .leaf) h fun e tm h => match e with
      | .normal | .ret => evRes E tm h fn.results.toList fun l => some (.ret (retOf l) h)
      | .panic v => some (.panic v h)
      | _ => none
    | some _ => X f args h

/-! ### What a function's text must be like -/
def cOk1 : Value → Bool
  | .bool _ | .int .. | .string _ | .pointer none | .map none | .nilFunc | .nilIface => true
  | .slice none l c => Nat.beq l 0 && Nat.beq c 0
  | _ => false
def cOk : Value → Bool
  | .agg a => a.toList.all cOk1
  | .tuple a => a.toList.all cOk1
  | v => cOk1 v
def xOk (nt G : Nat) : Operand → Bool
  | .tmp t => Nat.blt t nt
  | .const v => cOk v
  | .global g => Nat.blt g G && Nat.blt g lim
  | .func _ => true
def operOk (nt G : Nat) (ops : Array Oper) (o : Oper) : Bool := o.op.operands.toList.all (xOk nt G) && (match o.guard with
  | none => true
  | some (j, _) => match gslot ops j with
    | some d => Nat.blt d nt
    | none => true)
def codeOk (nt G : Nat) (D : Dr) : Code → Bool
  | .region id ops dr => ops.toList.all (operOk nt G ops) && (!dr || match D.get id with
    | none => false
    | some p => regOk ops p.1 p.2)
  | .seq a b => codeOk nt G D a && codeOk nt G D b
  | .cond c x y => xOk nt G c && codeOk nt G D x && codeOk nt G D y
  | .block _ b => codeOk nt G D b
  | .loop b => codeOk nt G D b
  | .rangeFunc g _ x y => xOk nt G g && codeOk nt G D x && codeOk nt G D y
  | _ => true
def funcOk (G : Nat) (D : Dr) (fn : Func) : Bool := (match fn.body with
  | some c => codeOk fn.ntmps G D c
  | none => false) && (fn.results.toList.all fun r => match r with
  | .tmp t => Nat.blt t fn.ntmps
  | .cell a _ => Nat.blt a fn.ntmps) && !(fn.name == "runtime.NumGoroutine")

def TI.size (i : TI) : Nat := i.lk.length
structure TI.Ok (P : Program) (t : TypeId) (i : TI) : Prop where
  d : P.underlying t = some i.d
  info : ∃ j, P.info? t = some j ∧ j.size = i.lk.length ∧ j.bytes = i.bytes ∧ j.zero = some i.zero
  agg : i.agg = (match i.d with | .struct _ | .array _ _ => true | _ => false)
  zero : cOk i.zero = true ∧ i.zero.cells.size = i.lk.length
  eqs : i.eqs = true → P.stoodInHeld t = false ∧ P.eqGuardType P.depth t = false
  flds : ∀ fs, i.d = .struct fs → (fs.toList.all fun f => (P.info? f.type).isSome) = true
structure Env.Ok (E : Env) (P : Program) (G : Nat) : Prop where
  ti : ∀ t i, E.ti.get t = some i → i.Ok P t
  fn : ∀ f g, E.fn.get f = some g → P.funcs[f]? = some g ∧ funcOk G (drOf E f) g = true
  mixed : P.follows .mixedOrders = true

end Go.Amb
