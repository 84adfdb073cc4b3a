/- Part of the proof by the abstract machine: no claim of its own. -/
import Derived.Test.YtnfncnchbogncaaDoorA1
import GoSem.Core.Utf8
set_option linter.unusedSimpArgs false
set_option linter.unusedVariables false
set_option linter.unnecessarySimpa false
set_option linter.unusedSectionVars false
/- The abstract machine, part 2: what it does. It keeps to one order, grows a slice by moving it, and gives up (none) wherever that might not be what every run does. -/
set_option linter.unusedVariables false
namespace Go.Amb

def ob {α β : Type} (x : Option α) (f : α → Option β) : Option β := match x with
  | none => none
  | some a => f a
@[simp] theorem ob_some {α β : Type} (a : α) (f : α → Option β) : ob (some a) f = f a := (rfl)
@[simp] theorem ob_none {α β : Type} (f : α → Option β) : ob none f = none := (rfl)
theorem ob_eq {α β : Type} {x : Option α} {f : α → Option β} {r : β} (h : ob x f = some r) : ∃ a, x = some a ∧ f a = some r := by
  cases x with
  | none => simp at h
  | some a => exact ⟨a, rfl, h⟩

inductive Ans where
  | ret (v : Value) (h : AHeap)
  | panic (v : Value) (h : AHeap)

def ans (x : Option Ans) (f g : Value → AHeap → Option Ans) : Option Ans := match x with
  | none => none
  | some (.ret v h) => f v h
  | some (.panic v h) => g v h
@[simp] theorem ans_ret (v : Value) (h : AHeap) (f g : Value → AHeap → Option Ans) : ans (some (.ret v h)) f g = f v h := (rfl)
@[simp] theorem ans_panic (v : Value) (h : AHeap) (f g : Value → AHeap → Option Ans) : ans (some (.panic v h)) f g = g v h := rfl

/-! ### Small things -/
def ikEq : IntKind → IntKind → Bool
  | .i8, .i8 | .i16, .i16 | .i32, .i32 | .i64, .i64 | .u8, .u8 | .u16, .u16 | .u32, .u32 | .u64, .u64 => true
  | _, _ => false
theorem ikEq_eq {a b : IntKind} (h : ikEq a b = true) : a = b := by cases a <;> cases b <;> simp_all [ikEq]
def u8sEq : List UInt8 → List UInt8 → Bool
  | [], [] => true
  | a :: x, b :: y => Nat.beq a.toNat b.toNat && u8sEq x y
  | _, _ => false
theorem u8sEq_eq : ∀ (a b : List UInt8), u8sEq a b = (a == b)
  | [], [] => rfl
  | [], b :: y => rfl
  | a :: x, [] => rfl
  | a :: x, b :: y => by
    have h : Nat.beq a.toNat b.toNat = (a == b) := by
      rw [Bool.eq_iff_iff]
      simp [Nat.beq_eq, UInt8.toNat_inj]
    simp [u8sEq, u8sEq_eq x y, h, List.cons_beq_cons]
def strEq (a b : ByteArray) : Bool := u8sEq a.data.toList b.data.toList
theorem strEq_iff (a b : ByteArray) : strEq a b = true ↔ a = b := by
  unfold strEq
  rw [u8sEq_eq]
  simp only [beq_iff_eq, Array.toList_inj]
  constructor
  · intro h; cases a; cases b; simp_all
  · rintro rfl; rfl

/-- A slice's three words. -/
structure SL where
  a : Option Addr
  len : Nat
  cap : Nat

def int? (k : IntKind) : Value → Option Int
  | .int k' n => match ikEq k k' with
    | true => some n
    | false => none
  | _ => none
def bool? : Value → Option Bool
  | .bool b => some b
  | _ => none
def str? : Value → Option ByteArray
  | .string s => some s
  | _ => none
def ptr? : Value → Option (Option Addr)
  | .pointer a => some a
  | _ => none
def slc? : Value → Option SL
  | .slice a l c => some ⟨a, l, c⟩
  | _ => none
def map? : Value → Option (Option Nat)
  | .map r => some r
  | _ => none
def agg? : Value → Option (List Value)
  | .agg a => some a.toList
  | _ => none
def tup? : Value → Option (List Value)
  | .tuple a => some a.toList
  | _ => none
def num? : Value → Option (IntKind × Int)
  | .int k n => some (k, n)
  | _ => none

/-- Of what make a cell is. -/
inductive LK where
  | int (k : IntKind) | bool | str | ptr | slc | map | any
def asLK {R : Type} : LK → Value → (Value → Option R) → Option R
  | .int k, v, f => ob (int? k v) fun n => f (.int k n)
  | .bool, v, f => ob (bool? v) fun b => f (.bool b)
  | .str, v, f => ob (str? v) fun s => f (.string s)
  | .ptr, v, f => ob (ptr? v) fun a => f (.pointer a)
  | .slc, v, f => ob (slc? v) fun s => f (.slice s.a s.len s.cap)
  | .map, v, f => ob (map? v) fun r => f (.map r)
  | .any, v, f => f v
def asNil {R : Type} (l : List Value) (x : Option R) : Option R := match l with
  | [] => x
  | _ :: _ => none
def asLKs {R : Type} : List LK → List Value → (List Value → Option R) → Option R
  | [], l, f => asNil l (f [])
  | k :: ks, l, f => ob l.head? fun v => asLK k v fun v' => asLKs ks l.tail fun r => f (v' :: r)

structure TI where
  d : TypeDesc
  agg : Bool
  lk : List LK
  bytes : Nat
  zero : Value
  eqs : Bool

/-- What is known of an iterator: how it begins, and what it hands over next. -/
structure Iter where
  start : List Value → AHeap → Option (List Value)
  next : List Value → List Value → AHeap → Option (Option (List Value × List Value))

structure Env where
  ti : PT TI
  fn : PT Func
  ext : PT Unit
  dr : PT (PT (List Nat × List Nat))
  it : PT Iter := .leaf

/-- A value of a type, its parts told. -/
def asTI {R : Type} (i : TI) (v : Value) (f : Value → Option R) : Option R := match i.agg with
  | true => ob (agg? v) fun l => asLKs i.lk l fun l' => f (.agg l'.toArray)
  | false => match i.lk with
    | [k] => asLK k v f
    | _ => none

/-! ### The heap -/
def putL (l : List Value) : Nat → List Value → List Value
  | 0, vs => vs ++ l.drop vs.length
  | n + 1, vs => match l with
    | [] => []
    | x :: r => x :: putL r n vs
namespace AHeap
def ld1 {R : Type} (h : AHeap) (i o : Nat) (k : LK) (f : Value → Option R) : Option R := ob (h.cell? i o) fun v => asLK k v f
def ldL {R : Type} (h : AHeap) (i : Nat) : List LK → Nat → (List Value → Option R) → Option R
  | [], _, f => f []
  | k :: ks, o, f => h.ld1 i o k fun v => h.ldL i ks (o + 1) fun r => f (v :: r)
def ld {R : Type} (h : AHeap) (t : TI) (i o : Nat) (f : Value → Option R) : Option R := match t.agg with
  | true => h.ldL i t.lk o fun l => f (.agg l.toArray)
  | false => match t.lk with
    | [k] => h.ld1 i o k f
    | _ => none
/-- Some cells of an object, one behind the other. -/
def row? (h : AHeap) (i o n : Nat) : Option (List Value) := match h.get i with
  | .cells vs _ _ _ => match Nat.ble (o + n) vs.length with
    | true => some ((vs.drop o).take n)
    | false => none
  | _ => none
def one? : Value → Bool
  | .agg _ | .tuple _ => false
  | _ => true
/-- Cells written. -/
def st (h : AHeap) (i o : Nat) (vs : List Value) : Option AHeap := match h.get i with
  | .cells l e opn false => match Nat.ble (o + vs.length) l.length, vs.all one? with
    | true, true => some (h.set i (.cells (putL l o vs) e opn false))
    | _, _ => none
  | _ => none
def most : Nat := 70368744177664 -- 2^46
/-- Cells laid behind a slice (n elements of 'sz' cells and 'by' bytes; at least one). -/
def app (h : AHeap) (e : TypeId) (sz bys : Nat) (s : SL) (n : Nat) (vs : List Value) : Option (SL × AHeap) :=
  match Nat.beq n 0 with
  | true => some (s, h)
  | false => match Nat.ble ((s.len + n) * bys) most, Nat.beq sz 0, Nat.beq bys 0 with
    | true, false, false => match s.a with
      | none => some (⟨some ⟨h.next, 0, none⟩, s.len + n, s.len + n⟩, h.new (.cells vs e (some sz) false))
      | some a => match Nat.ble (s.len + n) s.cap with
        | true => ob (h.st a.block (a.off + s.len * sz) vs) fun h' => some (⟨some ⟨a.block, a.off, none⟩, s.len + n, s.cap⟩, h')
        | false => match h.get a.block with
          | .cells l e' opn ro => match Nat.ble (a.off + s.len * sz) l.length with
            | false => none
            | true => match opn with
              | none => some (⟨some ⟨h.next, 0, none⟩, s.len + n, s.len + n⟩, h.new (.cells ((l.drop a.off).take (s.len * sz) ++ vs) e (some sz) false))
              | some z => match Nat.beq z sz, Nat.beq (a.off + s.cap * sz) l.length with
                | true, false => some (⟨some ⟨h.next, 0, none⟩, s.len + n, s.len + n⟩, h.new (.cells ((l.drop a.off).take (s.len * sz) ++ vs) e (some sz) false))
                | true, true => match Nat.beq s.len s.cap, ro, Nat.beq e e', vs.all one? with
                  | true, false, true, true => some (⟨some ⟨h.next, 0, none⟩, s.len + n, s.len + n⟩, (h.set a.block .gone).new (.cells (l.drop a.off ++ vs) e (some sz) false))
                  | _, _, _, _ => none
                | _, _ => none
          | _ => none
    | _, _, _ => none
/-- Are a slice's elements as wide as its object's? -/
def szOk (h : AHeap) (i sz : Nat) : Bool := match h.get i with
  | .cells _ _ none _ => true
  | .cells _ _ (some z) _ => Nat.beq z sz
  | _ => false
def map? (h : AHeap) (i : Nat) : Option (List (Value × Value)) := match h.get i with
  | .map kv => some kv
  | _ => none
def iter? (h : AHeap) (i : Nat) : Option (ByteArray × Nat) := match h.get i with
  | .iter s p => some (s, p)
  | _ => none
end AHeap

/-- An index within a length. -/
def idx? (i : Int) (n : Nat) : Option Nat := match decide (0 ≤ i) && decide (i < n) with
  | true => some i.toNat
  | false => none
/-- A bound within a number. -/
def bnd? (i : Int) (n : Nat) : Option Nat := match decide (0 ≤ i) && decide (i ≤ n) with
  | true => some i.toNat
  | false => none

def bytesOf? : List Value → Option (List UInt8)
  | [] => some []
  | .int .u8 n :: r => ob (bytesOf? r) fun l => some (UInt8.ofNat n.toNat :: l)
  | _ => none

/-- The first entry of a key. -/
def mfind? : List (Value × Value) → Value → Option (Option Value)
  | [], _ => some none
  | (.string a, v) :: r, .string b => match strEq b a with
    | true => some (some v)
    | false => mfind? r (.string b)
  | (.int ka a, v) :: r, .int kb b => match ikEq kb ka with
    | true => match b == a with
      | true => some (some v)
      | false => mfind? r (.int kb b)
    | false => none
  | _, _ => none
def mput? : List (Value × Value) → Value → Value → Option (List (Value × Value))
  | [], .string b, x => some [(.string b, x)]
  | [], .int kb b, x => some [(.int kb b, x)]
  | (.string a, v) :: r, .string b, x => match strEq b a with
    | true => some ((.string b, x) :: r)
    | false => ob (mput? r (.string b) x) fun r' => some ((.string a, v) :: r')
  | (.int ka a, v) :: r, .int kb b, x => match ikEq kb ka with
    | true => match b == a with
      | true => some ((.int kb b, x) :: r)
      | false => ob (mput? r (.int kb b) x) fun r' => some ((.int ka a, v) :: r')
    | false => none
  | _, _, _ => none

/-! ### Operations that only reckon -/
def intOp (op : BinOp) (k : IntKind) (a b : Int) : Option Value := match op with
  | .add => some (.int k (k.wrap (a + b)))
  | .sub => some (.int k (k.wrap (a - b)))
  | .mul => some (.int k (k.wrap (a * b)))
  | .eql => some (.bool (a == b))
  | .neq => some (.bool (a != b))
  | .lss => some (.bool (decide (a < b)))
  | .leq => some (.bool (decide (a ≤ b)))
  | .gtr => some (.bool (decide (a > b)))
  | .geq => some (.bool (decide (a ≥ b)))
  | .quo => match b == 0 with
    | true => none
    | false => some (.int k (k.wrap (a.tdiv b)))
  | .rem => match b == 0 with
    | true => none
    | false => some (.int k (a.tmod b))
  | .and => some (.int k (k.wrap (BitVec.ofInt k.bits a &&& BitVec.ofInt k.bits b).toNat))
  | .or => some (.int k (k.wrap (BitVec.ofInt k.bits a ||| BitVec.ofInt k.bits b).toNat))
  | .xor => some (.int k (k.wrap (BitVec.ofInt k.bits a ^^^ BitVec.ofInt k.bits b).toNat))
  | .andNot => some (.int k (k.wrap (BitVec.ofInt k.bits a &&& ~~~ BitVec.ofInt k.bits b).toNat))
  | _ => none
def shOp (op : BinOp) (k : IntKind) (a b : Int) : Option Value := match decide (b < 0) with
  | true => none
  | false => match op with
    | .shl => some (.int k (k.wrap (a * 2 ^ (min b.toNat k.bits))))
    | .shr => some (.int k (a.fdiv (2 ^ (min b.toNat k.bits))))
    | _ => none
def strOp (op : BinOp) (a b : ByteArray) : Option Value := match op with
  | .add => match Nat.ble (a.size + b.size) AHeap.most with
    | true => some (.string (a ++ b))
    | false => none
  | .eql => some (.bool (strEq a b))
  | .neq => some (.bool (!strEq a b))
  | .lss => some (.bool (Op.bytesLess a.data.toList b.data.toList))
  | .leq => some (.bool (Op.bytesLess a.data.toList b.data.toList || strEq a b))
  | .gtr => some (.bool (!(Op.bytesLess a.data.toList b.data.toList || strEq a b)))
  | .geq => some (.bool (!(Op.bytesLess a.data.toList b.data.toList)))
  | _ => none
/-- Are two pointers, slices .. the same, where that is sure? -/
def ptrEq (x y : Option Addr) : Option Bool := match y with
  | none => some x.isNone
  | some b => match x with
    | none => some false
    | some a => match Nat.beq a.block b.block && Nat.beq a.off b.off with
      | true => some true
      | false => none
def nilEq {α : Type} (x y : Option α) : Option Bool := match y with
  | none => some x.isNone
  | some _ => match x with
    | none => some false
    | some _ => none
def keyOk (t : TypeDesc) (v : Value) : Bool := match t, v with
  | .int _, .int _ _ => true
  | .string, .string _ => true
  | _, _ => false
def eq1 (t : TypeDesc) : Value → Value → Option Bool
  | .int k a, .int k' b => match t, ikEq k k' with
    | .int _, true => some (a == b)
    | _, _ => none
  | .string a, .string b => match t with
    | .string => some (strEq a b)
    | _ => none
  | .bool a, .bool b => match t with
    | .bool => some (a == b)
    | _ => none
  | _, _ => none
def eqFields (E : Env) (xs ys : List Value) : List Field → Option Bool
  | [] => some true
  | f :: fs => match f.name == "_" with
    | true => none
    | false => ob (E.ti.get f.type) fun i => ob (xs[f.offset]?) fun x => ob (ys[f.offset]?) fun y => ob (eq1 i.d x y) fun b => ob (eqFields E xs ys fs) fun c => some (b && c)
def eqOp (E : Env) (t : TypeId) (x y : Value) : Option Bool := ob (E.ti.get t) fun i => match i.d, x, y with
  | .bool, .bool a, .bool b => some (a == b)
  | .pointer e, .pointer a, .pointer b => ob (E.ti.get e) fun j => match j.lk with
    | [] => none
    | _ :: _ => ptrEq a b
  | .slice _, .slice a _ _, .slice b _ _ => nilEq a b
  | .map _ _, .map a, .map b => nilEq a b
  | .func _ _ _, .nilFunc, .nilFunc => some true
  | .func _ _ _, .func _ _ _, .nilFunc => some false
  | .func _ _ _, .nilFunc, .func _ _ _ => some false
  | .interface _, .iface _ _, .nilIface => some false
  | .interface _, .nilIface, .iface _ _ => some false
  | .struct fs, .agg a, .agg b => match i.eqs with
    | true => eqFields E a.toList b.toList fs.toList
    | false => none
  | _, _, _ => none
def binV (E : Env) (op : BinOp) (t : TypeId) (x y : Value) : Option Value := match x, y with
  | .int k a, .int k' b => match op with
    | .shl => shOp .shl k a b
    | .shr => shOp .shr k a b
    | op => match ikEq k k' with
      | true => intOp op k a b
      | false => none
  | .string a, .string b => strOp op a b
  | x, y => match op with
    | .eql => ob (eqOp E t x y) fun b => some (.bool b)
    | .neq => ob (eqOp E t x y) fun b => some (.bool (!b))
    | _ => none
def unV (op : UnOp) (x : Value) : Option Value := match op, x with
  | .not, .bool b => some (.bool (!b))
  | .neg, .int k n => some (.int k (k.wrap (0 - n)))
  | _, _ => none
/-- A struct's or array's cells, parts laid in. -/
def fillL (place : Nat → Option (Nat × Nat)) (cells : List Value) : List (Nat × Value) → Option (List Value)
  | [] => some cells
  | (i, v) :: rest => ob (place i) fun p => match Nat.beq v.cells.toList.length p.2 && Nat.ble (p.1 + p.2) cells.length with
    | true => fillL place (putL cells p.1 v.cells.toList) rest
    | false => none
def buildV (E : Env) (t : TypeId) (parts : List (Nat × Value)) : Option Value := ob (E.ti.get t) fun i => match i.d with
  | .struct fs => ob (fillL (fun j => ob (fs.toList[j]?) fun f => ob (E.ti.get f.type) fun g => some (f.offset, g.lk.length)) i.zero.cells.toList parts) fun l => some (.agg l.toArray)
  | .array _ e => ob (E.ti.get e) fun g => ob (fillL (fun j => some (j * g.lk.length, g.lk.length)) i.zero.cells.toList parts) fun l => some (.agg l.toArray)
  | _ => none
def repL (z : List Value) : Nat → List Value
  | 0 => []
  | n + 1 => z ++ repL z n
/-- A part of a struct or array. -/
def partV (E : Env) (t : TypeId) (l : List Value) (o : Nat) : Option Value := ob (E.ti.get t) fun i => match i.agg with
  | true => some (.agg ((l.drop o).take i.lk.length).toArray)
  | false => l[o]?

/-! ### One operation -/
def opnd (tm : PT Value) : Operand → Value
  | .tmp t => match tm.get t with
    | some v => v
    | none => undef
  | .const v => v
  | .global g => .pointer (some ⟨g, 0, none⟩)
  | .func f => .func (.func f) #[] #[]
def put (tm : PT Value) : Option Tmp → Value → PT Value
  | none, _ => tm
  | some d, v => tm.set d (some v)

abbrev Call := FuncId → List Value → AHeap → Option Ans
abbrev KV := Value → AHeap → Option Ans

/-- What a function hands back, told by its types. -/
def asRes (E : Env) : List TypeId → List Value → (List Value → Option Ans) → Option Ans
  | [], l, f => asNil l (f [])
  | t :: ts, l, f => ob (E.ti.get t) fun i => ob l.head? fun v => asTI i v fun v' => asRes E ts l.tail fun r => f (v' :: r)
def asRet (E : Env) (ts : List TypeId) (v : Value) (f : Value → Option Ans) : Option Ans := match ts with
  | [] => ob (tup? v) fun l => asNil l (f (.tuple #[]))
  | [t] => ob (E.ti.get t) fun i => asTI i v f
  | ts => ob (tup? v) fun l => asRes E ts l fun r => f (.tuple r.toArray)

/-- The cells of what is appended, and how many elements. -/
def srcOf (h : AHeap) (sz : Nat) : Value → Option (Nat × List Value)
  | .slice none _ _ => some (0, [])
  | .slice (some a) n _ => ob (h.row? a.block a.off (n * sz)) fun l => some (n, l)
  | .string s => match Nat.beq sz 1 with
    | true => some (s.size, s.data.toList.map fun b => .int .u8 b.toNat)
    | false => none
  | _ => none
def slcB (len cap : Nat) (lo hi mx : Option Value) : Option (Nat × Nat × Nat) :=
  ob (match mx with | none => some cap | some v => ob (num? v) fun p => bnd? p.2 cap) fun m =>
  ob (match hi with | none => (match mx with | none => some len | some _ => none) | some v => ob (num? v) fun p => bnd? p.2 m) fun h =>
  ob (match lo with | none => some 0 | some v => ob (num? v) fun p => bnd? p.2 h) fun l => some (l, h, m)

def evBuiltin (E : Env) (b : Builtin) (ts : List TypeId) (args : List Value) (h : AHeap) (k : KV) : Option Ans := match b, ts, args with
  | .len, [t], [x] => ob (E.ti.get t) fun i => match i.d, x with
    | .string, .string s => k (.int .i64 s.size) h
    | .slice _, .slice _ n _ => k (.int .i64 n) h
    | .map _ _, .map none => k (.int .i64 0) h
    | .map _ _, .map (some r) => ob (h.map? r) fun kv => k (.int .i64 kv.length) h
    | _, _ => none
  | .append, [t, t2], [s, x] => ob (E.ti.get t) fun i => ob (E.ti.get t2) fun i2 => match i.d, i2.d with
    | .slice e, .slice _ | .slice e, .string => ob (E.ti.get e) fun j => ob (slc? s) fun sl => ob (srcOf h j.lk.length x) fun p =>
      ob (h.app e j.lk.length j.bytes sl p.1 p.2) fun q => k (.slice q.1.a q.1.len q.1.cap) q.2
    | _, _ => none
  | .min, _, [.int kx a, .int _ b] => k (.int kx (if b < a then b else a)) h
  | .max, _, [.int kx a, .int _ b] => k (.int kx (if b > a then b else a)) h
  | .copy, [t, _], [d, s] => ob (E.ti.get t) fun i => match i.d with
    | .slice e => ob (E.ti.get e) fun j => ob (slc? d) fun dl => ob (srcOf h j.lk.length s) fun p =>
      match Nat.ble p.1 dl.len, dl.a with
      | true, none => k (.int .i64 p.1) h
      | true, some a => ob (h.st a.block a.off p.2) fun h' => k (.int .i64 p.1) h'
      | _, _ => none
    | _ => none
  | _, _, _ => none

def evCall (E : Env) (call : Call) (f : FuncId) (args : List Value) (h : AHeap) (k kp : KV) : Option Ans :=
  ob (E.fn.get f) fun fn => ans (call f args h) (fun v h' => asRet E fn.resultTypes.toList v fun v' => k v' h') kp

def opPick (tm : PT Value) (h : AHeap) (k : KV) (c a b : Operand) : Option Ans := ob (bool? (opnd tm c)) fun t => cond t (k (opnd tm a) h) (k (opnd tm b) h)
def opAlloc (E : Env) (h : AHeap) (k : KV) (t : TypeId) : Option Ans := ob (E.ti.get t) fun i => k (.pointer (some ⟨h.next, 0, none⟩)) (h.new (.cells i.zero.cells.toList t none false))
def opBox (tm : PT Value) (h : AHeap) (k : KV) (t : TypeId) (x : Operand) : Option Ans := k (.pointer (some ⟨h.next, 0, none⟩)) (h.new (.cells (opnd tm x).cells.toList t none false))
def opBuild (E : Env) (tm : PT Value) (h : AHeap) (k : KV) (t : TypeId) (ps : Array (Nat × Operand)) : Option Ans := ob (buildV E t (ps.toList.map fun p => (p.1, opnd tm p.2))) fun v => k v h
def opBuildSlice (E : Env) (tm : PT Value) (h : AHeap) (k : KV) (t : TypeId) (n : Nat) (ps : Array (Nat × Operand)) : Option Ans := ob (E.ti.get t) fun i => match i.d with
    | .slice e => ob (E.ti.get e) fun j => match Nat.ble (n * j.lk.length) 16777216 with
      | true => ob (fillL (fun q => some (q * j.lk.length, j.lk.length)) (repL j.zero.cells.toList n) (ps.toList.map fun p => (p.1, opnd tm p.2))) fun l =>
        k (.slice (some ⟨h.next, 0, none⟩) n n) (h.new (.cells l e none false))
      | false => none
    | _ => none
def opLoad (E : Env) (tm : PT Value) (h : AHeap) (k : KV) (t : TypeId) (x : Operand) : Option Ans := ob (E.ti.get t) fun i => ob (ptr? (opnd tm x)) fun a => ob a fun a => h.ld i a.block a.off fun v => k v h
def opStore (E : Env) (tm : PT Value) (h : AHeap) (k : KV) (t : TypeId) (x v : Operand) : Option Ans := ob (E.ti.get t) fun i => ob (ptr? (opnd tm x)) fun a => ob a fun a => match Nat.beq (opnd tm v).cells.toList.length i.lk.length with
    | true => ob (h.st a.block a.off (opnd tm v).cells.toList) fun h' => k undef h'
    | false => none
def opNilCheck (tm : PT Value) (h : AHeap) (k : KV) (x : Operand) : Option Ans := match opnd tm x with
    | .pointer a => ob a fun a => k (.pointer (some a)) h
    | .iface t v => k (.iface t v) h
    | _ => none
def opConvert (E : Env) (tm : PT Value) (h : AHeap) (k : KV) (s d : TypeId) (x : Operand) : Option Ans := ob (E.ti.get s) fun i => ob (E.ti.get d) fun j => match i.d, j.d, opnd tm x with
    | _, .int kd, .int _ n => k (.int kd (kd.wrap n)) h
    | _, .string, .int _ n => k (.string (Utf8.encode n)) h
    | _, .string, .string s => k (.string s) h
    | .slice e, .string, .slice a n _ => ob (E.ti.get e) fun q => match q.d, a with
      | .int .u8, none => k (.string .empty) h
      | .int .u8, some a => ob (h.row? a.block a.off n) fun l => ob (bytesOf? l) fun bs => k (.string ⟨bs.toArray⟩) h
      | _, _ => none
    | _, _, _ => none
def opMakeInterface (E : Env) (tm : PT Value) (h : AHeap) (k : KV) (t : TypeId) (x : Operand) : Option Ans := ob (E.ti.get t) fun i => match i.d with
    | .interface _ => none
    | _ => k (.iface t (opnd tm x)) h
def opMakeFunc (tm : PT Value) (h : AHeap) (k : KV) (fn : Fn) (a c : Array Operand) : Option Ans := match fn with
    | .func f => k (.func (.func f) (a.map (opnd tm)) (c.map (opnd tm))) h
    | _ => none
def opMakeSlice (E : Env) (tm : PT Value) (h : AHeap) (k : KV) (t : TypeId) (l c : Operand) : Option Ans := ob (E.ti.get t) fun i => match i.d with
    | .slice e => ob (E.ti.get e) fun j => ob (num? (opnd tm l)) fun n => ob (num? (opnd tm c)) fun m =>
      match decide (0 ≤ n.2) && decide (n.2 ≤ m.2) && decide (m.2 * j.bytes ≤ AHeap.most) && decide (m.2 ≤ AHeap.most) with
      | true => k (.slice (some ⟨h.next, 0, none⟩) n.2.toNat m.2.toNat) (h.new (.cells (repL j.zero.cells.toList m.2.toNat) e none false))
      | false => none
    | _ => none
def opSlice (E : Env) (tm : PT Value) (h : AHeap) (k : KV) (t : TypeId) (x : Operand) (lo hi mx : Option Operand) : Option Ans := ob (E.ti.get t) fun i => match i.d, opnd tm x with
    | .string, .string s => match mx with
      | none => ob (slcB s.size s.size (lo.map (opnd tm)) (hi.map (opnd tm)) none) fun b => k (.string (s.extract b.1 b.2.1)) h
      | some _ => none
    | .slice e, .slice a len cap => ob (E.ti.get e) fun j => ob (slcB len cap (lo.map (opnd tm)) (hi.map (opnd tm)) (mx.map (opnd tm))) fun b =>
      match a with
      | none => k (.slice none (b.2.1 - b.1) (b.2.2 - b.1)) h
      | some a => match h.szOk a.block j.lk.length with
        | true => k (.slice (some ⟨a.block, a.off + b.1 * j.lk.length, none⟩) (b.2.1 - b.1) (b.2.2 - b.1)) h
        | false => none
    | _, _ => none
def opFieldAddr (E : Env) (tm : PT Value) (h : AHeap) (k : KV) (s : TypeId) (x : Operand) (f : Nat) : Option Ans := ob (E.ti.get s) fun i => match i.d with
    | .struct fs => ob (fs.toList[f]?) fun fd => ob (E.ti.get fd.type) fun g => match g.lk with
      | [] => none
      | _ :: _ => ob (ptr? (opnd tm x)) fun a => ob a fun a => k (.pointer (some ⟨a.block, a.off + fd.offset, none⟩)) h
    | _ => none
def opField (E : Env) (tm : PT Value) (h : AHeap) (k : KV) (s : TypeId) (x : Operand) (f : Nat) : Option Ans := ob (E.ti.get s) fun i => match i.d with
    | .struct fs => ob (fs.toList[f]?) fun fd => ob (agg? (opnd tm x)) fun l => ob (partV E fd.type l fd.offset) fun v => k v h
    | _ => none
def opIndexAddr (E : Env) (tm : PT Value) (h : AHeap) (k : KV) (t : TypeId) (x ix : Operand) : Option Ans := ob (E.ti.get t) fun i => ob (num? (opnd tm ix)) fun n => match i.d with
    | .slice e => ob (E.ti.get e) fun j => ob (slc? (opnd tm x)) fun s => ob s.a fun a => ob (idx? n.2 s.len) fun q => k (.pointer (some ⟨a.block, a.off + q * j.lk.length, none⟩)) h
    | .array len e => ob (E.ti.get e) fun j => ob (ptr? (opnd tm x)) fun a => ob a fun a => ob (idx? n.2 len) fun q => k (.pointer (some ⟨a.block, a.off + q * j.lk.length, none⟩)) h
    | _ => none
def opIndex (E : Env) (tm : PT Value) (h : AHeap) (k : KV) (t : TypeId) (x ix : Operand) : Option Ans := ob (E.ti.get t) fun i => ob (num? (opnd tm ix)) fun n => match i.d, opnd tm x with
    | .string, .string s => ob (idx? n.2 s.size) fun q => ob (s.data.toList[q]?) fun b => k (.int .u8 b.toNat) h
    | .array len e, .agg cs => ob (E.ti.get e) fun j => ob (idx? n.2 len) fun q => ob (partV E e cs.toList (q * j.lk.length)) fun v => k v h
    | _, _ => none
def opLookup (E : Env) (tm : PT Value) (h : AHeap) (k : KV) (t : TypeId) (x ix : Operand) (ok : Bool) : Option Ans := ob (E.ti.get t) fun i => match i.d, opnd tm x with
    | .map kt e, .map (some r) => ob (E.ti.get kt) fun ki => ob (E.ti.get e) fun j => match keyOk ki.d (opnd tm ix) with
      | false => none
      | true => ob (h.map? r) fun kv => ob (mfind? kv (opnd tm ix)) fun q => match q with
        | some v => asTI j v fun v' => k (cond ok (.tuple #[v', .bool true]) v') h
        | none => k (cond ok (.tuple #[j.zero, .bool false]) j.zero) h
    | _, _ => none
def opMapUpdate (E : Env) (tm : PT Value) (h : AHeap) (k : KV) (t : TypeId) (m kx v : Operand) : Option Ans := ob (E.ti.get t) fun i => match i.d, opnd tm m with
    | .map kt e, .map (some r) => ob (E.ti.get kt) fun ki => match keyOk ki.d (opnd tm kx) with
      | false => none
      | true => ob (h.map? r) fun kv => ob (mput? kv (opnd tm kx) (opnd tm v)) fun kv' => k undef (h.set r (.map kv'))
    | _, _ => none
def opRange (E : Env) (tm : PT Value) (h : AHeap) (k : KV) (t : TypeId) (x : Operand) : Option Ans := ob (E.ti.get t) fun i => match i.d, opnd tm x with
    | .string, .string s => k (.pointer (some ⟨h.next, 0, none⟩)) (h.new (.iter s 0))
    | _, _ => none
def opNext (tm : PT Value) (h : AHeap) (k : KV) (x : Operand) : Option Ans := ob (ptr? (opnd tm x)) fun a => ob a fun a => match Nat.beq a.off 0 with
    | true => ob (h.iter? a.block) fun p => match Nat.ble p.1.size p.2 with
      | true => k (.tuple #[.bool false]) h
      | false => k (.tuple #[.bool true, .int .i64 p.2, .int .i32 (Utf8.decode p.1 p.2).1]) (h.set a.block (.iter p.1 (p.2 + (Utf8.decode p.1 p.2).2)))
    | false => none
def opTypeAssert (E : Env) (tm : PT Value) (h : AHeap) (k : KV) (x : Operand) (t : TypeId) (ok : Bool) : Option Ans := ob (E.ti.get t) fun i => match i.d with
    | .interface _ => none
    | _ => match opnd tm x with
      | .iface u v => match Nat.beq u t with
        | true => k (cond ok (.tuple #[v, .bool true]) v) h
        | false => cond ok (k (.tuple #[i.zero, .bool false]) h) none
      | .nilIface => cond ok (k (.tuple #[i.zero, .bool false]) h) none
      | _ => none
def opExtract (tm : PT Value) (h : AHeap) (k : KV) (x : Operand) (i : Nat) : Option Ans := ob (tup? (opnd tm x)) fun l => ob (l[i]?) fun v => k v h
def opCallV (E : Env) (call : Call) (tm : PT Value) (h : AHeap) (k kp : KV) (f : Operand) (args : Array Operand) : Option Ans := match opnd tm f with
      | .func (.func g) first cap => evCall E call g (first.toList ++ args.toList.map (opnd tm) ++ cap.toList) h k kp
      | _ => none
def opCall (E : Env) (call : Call) (tm : PT Value) (h : AHeap) (k kp : KV) (c : Go.Call) : Option Ans := match c.callee with
    | .builtin b => evBuiltin E b c.argTypes.toList (c.args.toList.map (opnd tm)) h k
    | .value f => opCallV E call tm h k kp f c.args
    | .invoke _ _ => none
def opPanic (tm : PT Value) (h : AHeap) (kp : KV) (x : Operand) : Option Ans := match opnd tm x with
    | .iface t v => kp (.iface t v) h
    | _ => none
def opBin (E : Env) (tm : PT Value) (h : AHeap) (k : KV) (op : BinOp) (t : TypeId) (x y : Operand) : Option Ans := ob (binV E op t (opnd tm x) (opnd tm y)) fun v => k v h
def opUn (tm : PT Value) (h : AHeap) (k : KV) (op : UnOp) (x : Operand) : Option Ans := ob (unV op (opnd tm x)) fun v => k v h
def evOp (E : Env) (call : Call) (o : Op) (tm : PT Value) (h : AHeap) (k kp : KV) : Option Ans := match o with
  | .move x => k (opnd tm x) h
  | .assign x => k (opnd tm x) h
  | .pick c a b => opPick tm h k c a b
  | .alloc t => opAlloc E h k t
  | .box t x => opBox tm h k t x
  | .build t ps => opBuild E tm h k t ps
  | .buildSlice t n ps => opBuildSlice E tm h k t n ps
  | .load t x => opLoad E tm h k t x
  | .store t x v => opStore E tm h k t x v
  | .nilCheck x => opNilCheck tm h k x
  | .binOp op t x y _ => opBin E tm h k op t x y
  | .unOp op _ x => opUn tm h k op x
  | .convert s d x => opConvert E tm h k s d x
  | .makeInterface t x => opMakeInterface E tm h k t x
  | .makeFunc fn a c => opMakeFunc tm h k fn a c
  | .makeMap _ none => k (.map (some h.next)) (h.new (.map []))
  | .makeSlice t l c => opMakeSlice E tm h k t l c
  | .slice t x lo hi mx => opSlice E tm h k t x lo hi mx
  | .fieldAddr s x f => opFieldAddr E tm h k s x f
  | .field s x f => opField E tm h k s x f
  | .indexAddr t x ix => opIndexAddr E tm h k t x ix
  | .index t x ix => opIndex E tm h k t x ix
  | .lookup t x ix ok => opLookup E tm h k t x ix ok
  | .mapUpdate t m kx v => opMapUpdate E tm h k t m kx v
  | .insert t m kx v => opMapUpdate E tm h k t m kx v
  | .range t x => opRange E tm h k t x
  | .next x true => opNext tm h k x
  | .typeAssert x _ t ok => opTypeAssert E tm h k x t ok
  | .extract x i => opExtract tm h k x i
  | .call c => opCall E call tm h k kp c
  | .panic x => opPanic tm h kp x
  | _ => none

/-- With what makes bytes of a text: in regions of one order alone. -/
def evOpX (E : Env) (call : Call) (o : Op) (tm : PT Value) (h : AHeap) (k kp : KV) : Option Ans := match o with
  | .convert s d x => ob (E.ti.get s) fun i => ob (E.ti.get d) fun j => match i.d, j.d, opnd tm x with
    | .string, .slice e, .string u => ob (E.ti.get e) fun q => match q.d with
      | .int .u8 => k (.slice (some ⟨h.next, 0, none⟩) u.size u.size) (h.new (.cells (u.data.toList.map fun b => .int .u8 b.toNat) e (some 1) false))
      | _ => none
    | _, _, _ => opConvert E tm h k s d x
  | o => evOp E call o tm h k kp

/-! ### Regions -/
/-- What a guard asks: the slot. -/
def gslot (ops : Array Oper) (j : Nat) : Option Tmp := match ops[j]? with
  | some o => o.dst
  | none => none
def evGuard (ops : Array Oper) (o : Oper) (tm : PT Value) (yes no : PT Value → Option Ans) : Option Ans := match o.guard with
  | none => yes tm
  | some (j, want) => ob (gslot ops j) fun d => match opnd tm (.tmp d) with
    | .bool b => cond b (cond want (yes (tm.set d (some (.bool true)))) (no (tm.set d (some (.bool true)))))
      (cond want (no (tm.set d (some (.bool false)))) (yes (tm.set d (some (.bool false)))))
    | .tuple _ => no tm
    | _ => none

inductive XExit where
  | normal | exit (id : Nat) | ret | panic (v : Value)
abbrev KX := XExit → PT Value → AHeap → Option Ans

def evOps (E : Env) (call : Call) (ops : Array Oper) : List Oper → PT Value → AHeap → KX → Option Ans
  | [], tm, h, k => k .normal tm h
  | o :: rest, tm, h, k => evGuard ops o tm
    (fun tm => evOpX E call o.op tm h (fun v h' => evOps E call ops rest (put tm o.dst v) h' k) (fun v h' => k (.panic v) tm h'))
    (fun tm => evOps E call ops rest (put tm o.dst undef) h k)

/-! A region whose order is open. -/
inductive Cls where
  | pure | load | alloc | write
def cls : Op → Cls
  | .move _ | .assign _ | .pick .. | .build .. | .nilCheck _ | .binOp .. | .unOp .. | .makeInterface .. | .makeFunc .. | .slice .. | .fieldAddr .. | .field .. | .indexAddr .. | .index .. | .extract .. | .typeAssert .. => .pure
  | .convert _ _ _ => .load
  | .load .. | .lookup .. => .load
  | .alloc _ | .box _ _ | .buildSlice _ _ _ | .makeMap _ _ | .makeSlice _ _ _ => .alloc
  | .call { callee := .builtin .len, .. } => .load
  | .call { callee := .builtin .min, .. } | .call { callee := .builtin .max, .. } => .pure
  | _ => .write

/-! ### Code -/
def loopE (body : PT Value → AHeap → KX → Option Ans) : Nat → PT Value → AHeap → KX → Option Ans
  | 0, _, _, _ => none
  | n + 1, tm, h, k => body tm h fun e tm h => match e with
    | .normal => loopE body n tm h k
    | e => k e tm h

/-! A range over a function: its iterator is one that is known; each round begins with the slots of the statement. -/
def setPs : List Tmp → List Value → PT Value → PT Value
  | t :: ts, v :: vs, tm => setPs ts vs (tm.set t (some v))
  | _, _, tm => tm
def rfE (nx : List Value → AHeap → Option (Option (List Value × List Value))) (rd : List Value → AHeap → KX → Option Ans) (k : KX) (tm : PT Value) : Nat → List Value → AHeap → Option Ans
  | 0, _, _ => none
  | n + 1, st, h => ob (nx st h) fun x => match x with
    | none => k .normal tm h
    | some p => rd p.1 h fun e _ h' => match e with
      | .normal => rfE nx rd k tm n p.2 h'
      | .panic _ => none
      | e => k e tm h'
def fnOf (v : Value) : Option (FuncId × List Value) := match v with
  | .func (.func g) a c => match a.toList with
    | [] => some (g, c.toList)
    | _ => none
  | _ => none

def evCode (E : Env) (call : Call) (draw : Nat → Array Oper → PT Value → AHeap → KX → Option Ans) (lf : Nat) : Code → PT Value → AHeap → KX → Option Ans
  | .skip, tm, h, k => k .normal tm h
  | .region _ ops false, tm, h, k => evOps E call ops ops.toList tm h k
  | .region id ops true, tm, h, k => draw id ops tm h k
  | .seq a b, tm, h, k => evCode E call draw lf a tm h fun e tm h => match e with
    | .normal => evCode E call draw lf b tm h k
    | e => k e tm h
  | .cond c x y, tm, h, k => ob (bool? (opnd tm c)) fun b => cond b (evCode E call draw lf x tm h k) (evCode E call draw lf y tm h k)
  | .block id b, tm, h, k => evCode E call draw lf b tm h fun e tm h => match e with
    | .exit j => match Nat.beq j id with
      | true => k .normal tm h
      | false => k (.exit j) tm h
    | e => k e tm h
  | .loop b, tm, h, k => loopE (fun tm h k => evCode E call draw lf b tm h k) lf tm h k
  | .exit id, tm, h, k => k (.exit id) tm h
  | .ret, tm, h, k => k .ret tm h
  | .rangeFunc g ps x y, tm, h, k => ob (fnOf (opnd tm g)) fun p => ob (E.it.get p.1) fun it => ob (it.start p.2 h) fun st => rfE (it.next p.2)
    (fun args h k => match Nat.beq args.length ps.toList.length with
      | true => evCode E call draw lf x (setPs ps.toList args tm) h fun e tm h => match e with
        | .normal => evCode E call draw lf y tm h k
        | _ => none
      | false => none) k tm lf st h
  | _, _, _, _ => none

def tm0 : List Value → Nat → PT Value → PT Value
  | [], _, t => t
  | v :: r, n, t => tm0 r (n + 1) (t.set n (some v))
def evRes (E : Env) (tm : PT Value) (h : AHeap) : List ResultVar → (List Value → Option Ans) → Option Ans
  | [], f => f []
  | .tmp t :: r, f => evRes E tm h r fun l => f (opnd tm (.tmp t) :: l)
  | .cell a t :: r, f => ob (E.ti.get t) fun i => ob (ptr? (opnd tm (.tmp a))) fun p => ob p fun p => h.ld i p.block p.off fun v => evRes E tm h r fun l => f (v :: l)
def retOf : List Value → Value
  | [v] => v
  | l => .tuple l.toArray

end Go.Amb
