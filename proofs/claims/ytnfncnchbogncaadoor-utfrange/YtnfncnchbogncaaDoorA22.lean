/- Part of the proof by the abstract machine: no claim of its own. -/
import Derived.Test.YtnfncnchbogncaaDoorA20
set_option linter.unusedSimpArgs false
set_option linter.unusedVariables false
set_option linter.unnecessarySimpa false
set_option linter.unusedSectionVars false
/- The abstract machine, part 22: the same machine, its slots a function: for arguments that are not closed. -/
set_option linter.unusedVariables false
namespace Go.Amb

def opPickR (ρ : Operand → Value) (h : AHeap) (k : KV) (c a b : Operand) : Option Ans := ob (bool? (ρ c)) fun t => cond t (k (ρ a) h) (k (ρ b) h)
def opAllocR (E : Env) (h : AHeap) (k : KV) (t : TypeId) : Option Ans := ob (E.ti.get t) fun i => k (.pointer (some ⟨h.next, 0, none⟩)) (h.new (.cells i.zero.cells.toList t none false))
def opBoxR (ρ : Operand → Value) (h : AHeap) (k : KV) (t : TypeId) (x : Operand) : Option Ans := k (.pointer (some ⟨h.next, 0, none⟩)) (h.new (.cells (ρ x).cells.toList t none false))
def opBuildR (E : Env) (ρ : Operand → Value) (h : AHeap) (k : KV) (t : TypeId) (ps : Array (Nat × Operand)) : Option Ans := ob (buildV E t (ps.toList.map fun p => (p.1, ρ p.2))) fun v => k v h
def opBuildSliceR (E : Env) (ρ : Operand → Value) (h : AHeap) (k : KV) (t : TypeId) (n : Nat) (ps : Array (Nat × Operand)) : Option Ans := ob (E.ti.get t) fun i => match i.d with
    | .slice e => ob (E.ti.get e) fun j => match Nat.ble (n * j.lk.length) 16777216 with
      | true => ob (fillL (fun q => some (q * j.lk.length, j.lk.length)) (repL j.zero.cells.toList n) (ps.toList.map fun p => (p.1, ρ p.2))) fun l =>
        k (.slice (some ⟨h.next, 0, none⟩) n n) (h.new (.cells l e none false))
      | false => none
    | _ => none
def opLoadR (E : Env) (ρ : Operand → Value) (h : AHeap) (k : KV) (t : TypeId) (x : Operand) : Option Ans := ob (E.ti.get t) fun i => ob (ptr? (ρ x)) fun a => ob a fun a => h.ld i a.block a.off fun v => k v h
def opStoreR (E : Env) (ρ : Operand → Value) (h : AHeap) (k : KV) (t : TypeId) (x v : Operand) : Option Ans := ob (E.ti.get t) fun i => ob (ptr? (ρ x)) fun a => ob a fun a => match Nat.beq (ρ v).cells.toList.length i.lk.length with
    | true => ob (h.st a.block a.off (ρ v).cells.toList) fun h' => k undef h'
    | false => none
def opNilCheckR (ρ : Operand → Value) (h : AHeap) (k : KV) (x : Operand) : Option Ans := match ρ x with
    | .pointer a => ob a fun a => k (.pointer (some a)) h
    | .iface t v => k (.iface t v) h
    | _ => none
def opConvertR (E : Env) (ρ : Operand → Value) (h : AHeap) (k : KV) (s d : TypeId) (x : Operand) : Option Ans := ob (E.ti.get s) fun i => ob (E.ti.get d) fun j => match i.d, j.d, ρ x with
    | _, .int kd, .int _ n => k (.int kd (kd.wrap n)) h
    | _, .string, .int _ n => k (.string (Utf8.encode n)) h
    | _, .string, .string s => k (.string s) h
    | .slice e, .string, .slice a n _ => ob (E.ti.get e) fun q => match q.d, a with
      | .int .u8, none => k (.string .empty) h
      | .int .u8, some a => ob (h.row? a.block a.off n) fun l => ob (bytesOf? l) fun bs => k (.string ⟨bs.toArray⟩) h
      | _, _ => none
    | _, _, _ => none
def opMakeInterfaceR (E : Env) (ρ : Operand → Value) (h : AHeap) (k : KV) (t : TypeId) (x : Operand) : Option Ans := ob (E.ti.get t) fun i => match i.d with
    | .interface _ => none
    | _ => k (.iface t (ρ x)) h
def opMakeFuncR (ρ : Operand → Value) (h : AHeap) (k : KV) (fn : Fn) (a c : Array Operand) : Option Ans := match fn with
    | .func f => k (.func (.func f) (a.map ρ) (c.map ρ)) h
    | _ => none
def opMakeSliceR (E : Env) (ρ : Operand → Value) (h : AHeap) (k : KV) (t : TypeId) (l c : Operand) : Option Ans := ob (E.ti.get t) fun i => match i.d with
    | .slice e => ob (E.ti.get e) fun j => ob (num? (ρ l)) fun n => ob (num? (ρ c)) fun m =>
      match decide (0 ≤ n.2) && decide (n.2 ≤ m.2) && decide (m.2 * j.bytes ≤ AHeap.most) && decide (m.2 ≤ AHeap.most) with
      | true => k (.slice (some ⟨h.next, 0, none⟩) n.2.toNat m.2.toNat) (h.new (.cells (repL j.zero.cells.toList m.2.toNat) e none false))
      | false => none
    | _ => none
def opSliceR (E : Env) (ρ : Operand → Value) (h : AHeap) (k : KV) (t : TypeId) (x : Operand) (lo hi mx : Option Operand) : Option Ans := ob (E.ti.get t) fun i => match i.d, ρ x with
    | .string, .string s => match mx with
      | none => ob (slcB s.size s.size (lo.map ρ) (hi.map ρ) none) fun b => k (.string (s.extract b.1 b.2.1)) h
      | some _ => none
    | .slice e, .slice a len cap => ob (E.ti.get e) fun j => ob (slcB len cap (lo.map ρ) (hi.map ρ) (mx.map ρ)) fun b =>
      match a with
      | none => k (.slice none (b.2.1 - b.1) (b.2.2 - b.1)) h
      | some a => match h.szOk a.block j.lk.length with
        | true => k (.slice (some ⟨a.block, a.off + b.1 * j.lk.length, none⟩) (b.2.1 - b.1) (b.2.2 - b.1)) h
        | false => none
    | _, _ => none
def opFieldAddrR (E : Env) (ρ : Operand → Value) (h : AHeap) (k : KV) (s : TypeId) (x : Operand) (f : Nat) : Option Ans := ob (E.ti.get s) fun i => match i.d with
    | .struct fs => ob (fs.toList[f]?) fun fd => ob (E.ti.get fd.type) fun g => match g.lk with
      | [] => none
      | _ :: _ => ob (ptr? (ρ x)) fun a => ob a fun a => k (.pointer (some ⟨a.block, a.off + fd.offset, none⟩)) h
    | _ => none
def opFieldR (E : Env) (ρ : Operand → Value) (h : AHeap) (k : KV) (s : TypeId) (x : Operand) (f : Nat) : Option Ans := ob (E.ti.get s) fun i => match i.d with
    | .struct fs => ob (fs.toList[f]?) fun fd => ob (agg? (ρ x)) fun l => ob (partV E fd.type l fd.offset) fun v => k v h
    | _ => none
def opIndexAddrR (E : Env) (ρ : Operand → Value) (h : AHeap) (k : KV) (t : TypeId) (x ix : Operand) : Option Ans := ob (E.ti.get t) fun i => ob (num? (ρ ix)) fun n => match i.d with
    | .slice e => ob (E.ti.get e) fun j => ob (slc? (ρ x)) fun s => ob s.a fun a => ob (idx? n.2 s.len) fun q => k (.pointer (some ⟨a.block, a.off + q * j.lk.length, none⟩)) h
    | .array len e => ob (E.ti.get e) fun j => ob (ptr? (ρ x)) fun a => ob a fun a => ob (idx? n.2 len) fun q => k (.pointer (some ⟨a.block, a.off + q * j.lk.length, none⟩)) h
    | _ => none
def opIndexR (E : Env) (ρ : Operand → Value) (h : AHeap) (k : KV) (t : TypeId) (x ix : Operand) : Option Ans := ob (E.ti.get t) fun i => ob (num? (ρ ix)) fun n => match i.d, ρ x with
    | .string, .string s => ob (idx? n.2 s.size) fun q => ob (s.data.toList[q]?) fun b => k (.int .u8 b.toNat) h
    | .array len e, .agg cs => ob (E.ti.get e) fun j => ob (idx? n.2 len) fun q => ob (partV E e cs.toList (q * j.lk.length)) fun v => k v h
    | _, _ => none
def opLookupR (E : Env) (ρ : Operand → Value) (h : AHeap) (k : KV) (t : TypeId) (x ix : Operand) (ok : Bool) : Option Ans := ob (E.ti.get t) fun i => match i.d, ρ x with
    | .map kt e, .map (some r) => ob (E.ti.get kt) fun ki => ob (E.ti.get e) fun j => match keyOk ki.d (ρ ix) with
      | false => none
      | true => ob (h.map? r) fun kv => ob (mfind? kv (ρ ix)) fun q => match q with
        | some v => asTI j v fun v' => k (cond ok (.tuple #[v', .bool true]) v') h
        | none => k (cond ok (.tuple #[j.zero, .bool false]) j.zero) h
    | _, _ => none
def opMapUpdateR (E : Env) (ρ : Operand → Value) (h : AHeap) (k : KV) (t : TypeId) (m kx v : Operand) : Option Ans := ob (E.ti.get t) fun i => match i.d, ρ m with
    | .map kt e, .map (some r) => ob (E.ti.get kt) fun ki => match keyOk ki.d (ρ kx) with
      | false => none
      | true => ob (h.map? r) fun kv => ob (mput? kv (ρ kx) (ρ v)) fun kv' => k undef (h.set r (.map kv'))
    | _, _ => none
def opRangeR (E : Env) (ρ : Operand → Value) (h : AHeap) (k : KV) (t : TypeId) (x : Operand) : Option Ans := ob (E.ti.get t) fun i => match i.d, ρ x with
    | .string, .string s => k (.pointer (some ⟨h.next, 0, none⟩)) (h.new (.iter s 0))
    | _, _ => none
def opNextR (ρ : Operand → Value) (h : AHeap) (k : KV) (x : Operand) : Option Ans := ob (ptr? (ρ x)) fun a => ob a fun a => match Nat.beq a.off 0 with
    | true => ob (h.iter? a.block) fun p => match Nat.ble p.1.size p.2 with
      | true => k (.tuple #[.bool false]) h
      | false => k (.tuple #[.bool true, .int .i64 p.2, .int .i32 (Utf8.decode p.1 p.2).1]) (h.set a.block (.iter p.1 (p.2 + (Utf8.decode p.1 p.2).2)))
    | false => none
def opTypeAssertR (E : Env) (ρ : Operand → Value) (h : AHeap) (k : KV) (x : Operand) (t : TypeId) (ok : Bool) : Option Ans := ob (E.ti.get t) fun i => match i.d with
    | .interface _ => none
    | _ => match ρ x with
      | .iface u v => match Nat.beq u t with
        | true => k (cond ok (.tuple #[v, .bool true]) v) h
        | false => cond ok (k (.tuple #[i.zero, .bool false]) h) none
      | .nilIface => cond ok (k (.tuple #[i.zero, .bool false]) h) none
      | _ => none
def opExtractR (ρ : Operand → Value) (h : AHeap) (k : KV) (x : Operand) (i : Nat) : Option Ans := ob (tup? (ρ x)) fun l => ob (l[i]?) fun v => k v h
def opCallVR (E : Env) (call : Call) (ρ : Operand → Value) (h : AHeap) (k kp : KV) (f : Operand) (args : Array Operand) : Option Ans := match ρ f with
      | .func (.func g) first cap => evCall E call g (first.toList ++ args.toList.map ρ ++ cap.toList) h k kp
      | _ => none
def opCallR (E : Env) (call : Call) (ρ : Operand → Value) (h : AHeap) (k kp : KV) (c : Go.Call) : Option Ans := match c.callee with
    | .builtin b => evBuiltin E b c.argTypes.toList (c.args.toList.map ρ) h k
    | .value f => opCallVR E call ρ h k kp f c.args
    | .invoke _ _ => none
def opPanicR (ρ : Operand → Value) (h : AHeap) (kp : KV) (x : Operand) : Option Ans := match ρ x with
    | .iface t v => kp (.iface t v) h
    | _ => none
def opBinR (E : Env) (ρ : Operand → Value) (h : AHeap) (k : KV) (op : BinOp) (t : TypeId) (x y : Operand) : Option Ans := ob (binV E op t (ρ x) (ρ y)) fun v => k v h
def opUnR (ρ : Operand → Value) (h : AHeap) (k : KV) (op : UnOp) (x : Operand) : Option Ans := ob (unV op (ρ x)) fun v => k v h
def evOpR (E : Env) (call : Call) (o : Op) (ρ : Operand → Value) (h : AHeap) (k kp : KV) : Option Ans := match o with
  | .move x => k (ρ x) h
  | .assign x => k (ρ x) h
  | .pick c a b => opPickR ρ h k c a b
  | .alloc t => opAllocR E h k t
  | .box t x => opBoxR ρ h k t x
  | .build t ps => opBuildR E ρ h k t ps
  | .buildSlice t n ps => opBuildSliceR E ρ h k t n ps
  | .load t x => opLoadR E ρ h k t x
  | .store t x v => opStoreR E ρ h k t x v
  | .nilCheck x => opNilCheckR ρ h k x
  | .binOp op t x y _ => opBinR E ρ h k op t x y
  | .unOp op _ x => opUnR ρ h k op x
  | .convert s d x => opConvertR E ρ h k s d x
  | .makeInterface t x => opMakeInterfaceR E ρ h k t x
  | .makeFunc fn a c => opMakeFuncR ρ h k fn a c
  | .makeMap _ none => k (.map (some h.next)) (h.new (.map []))
  | .makeSlice t l c => opMakeSliceR E ρ h k t l c
  | .slice t x lo hi mx => opSliceR E ρ h k t x lo hi mx
  | .fieldAddr s x f => opFieldAddrR E ρ h k s x f
  | .field s x f => opFieldR E ρ h k s x f
  | .indexAddr t x ix => opIndexAddrR E ρ h k t x ix
  | .index t x ix => opIndexR E ρ h k t x ix
  | .lookup t x ix ok => opLookupR E ρ h k t x ix ok
  | .mapUpdate t m kx v => opMapUpdateR E ρ h k t m kx v
  | .insert t m kx v => opMapUpdateR E ρ h k t m kx v
  | .range t x => opRangeR E ρ h k t x
  | .next x true => opNextR ρ h k x
  | .typeAssert x _ t ok => opTypeAssertR E ρ h k x t ok
  | .extract x i => opExtractR ρ h k x i
  | .call c => opCallR E call ρ h k kp c
  | .panic x => opPanicR ρ h kp x
  | _ => none


theorem evOp_R (E : Env) (call : Call) (o : Op) (tm : PT Value) (h : AHeap) (k kp : KV) : evOp E call o tm h k kp = evOpR E call o (opnd tm) h k kp := rfl

abbrev St := Nat → Value
def opndS (σ : St) : Operand → Value
  | .tmp t => σ t
  | .const v => v
  | .global g => .pointer (some ⟨g, 0, none⟩)
  | .func f => .func (.func f) #[] #[]
def upd (σ : St) (t : Nat) (v : Value) : St := fun s => cond (Nat.beq s t) v (σ s)
def putS (σ : St) : Option Tmp → Value → St
  | none, _ => σ
  | some d, v => upd σ d v
abbrev KS := XExit → St → AHeap → Option Ans

def evOpXS (E : Env) (call : Call) (o : Op) (ρ : Operand → Value) (h : AHeap) (k kp : KV) : Option Ans := match o with
  | .convert s d x => ob (E.ti.get s) fun i => ob (E.ti.get d) fun j => match i.d, j.d, ρ x with
    | .string, .slice e, .string u => ob (E.ti.get e) fun q => match q.d with
      | .int .u8 => k (.slice (some ⟨h.next, 0, none⟩) u.size u.size) (h.new (.cells (u.data.toList.map fun b => .int .u8 b.toNat) e (some 1) false))
      | _ => none
    | _, _, _ => opConvertR E ρ h k s d x
  | o => evOpR E call o ρ h k kp
theorem evOpX_R (E : Env) (call : Call) (o : Op) (tm : PT Value) (h : AHeap) (k kp : KV) : evOpX E call o tm h k kp = evOpXS E call o (opnd tm) h k kp := by cases o <;> rfl
def evGuardS (ops : Array Oper) (o : Oper) (σ : St) (yes no : St → Option Ans) : Option Ans := match o.guard with
  | none => yes σ
  | some (j, want) => ob (gslot ops j) fun d => match σ d with
    | .bool b => cond b (cond want (yes (upd σ d (.bool true))) (no (upd σ d (.bool true))))
      (cond want (no (upd σ d (.bool false))) (yes (upd σ d (.bool false))))
    | .tuple c => no (upd σ d (.tuple c))
    | _ => none
def evOpsS (E : Env) (call : Call) (ops : Array Oper) : List Oper → St → AHeap → KS → Option Ans
  | [], σ, h, k => k .normal σ h
  | o :: rest, σ, h, k => evGuardS ops o σ
    (fun σ => evOpXS E call o.op (opndS σ) h (fun v h' => evOpsS E call ops rest (putS σ o.dst v) h' k) (fun v h' => k (.panic v) σ h'))
    (fun σ => evOpsS E call ops rest (putS σ o.dst undef) h k)
def alCS (E : Env) (ρ : Operand → Value) : Op → Option (List Value × TypeId)
  | .alloc t => ob (E.ti.get t) fun i => some (i.zero.cells.toList, t)
  | .box t x => some ((ρ x).cells.toList, t)
  | .buildSlice t n ps => ob (E.ti.get t) fun i => match i.d with
    | .slice e => ob (E.ti.get e) fun j => match Nat.ble (n * j.lk.length) 16777216 with
      | true => ob (fillL (fun q => some (q * j.lk.length, j.lk.length)) (repL j.zero.cells.toList n) (ps.toList.map fun p => (p.1, ρ p.2))) fun l => some (l, e)
      | false => none
    | _ => none
  | _ => none
def stillS (E : Env) (ρ : Operand → Value) (op : Op) (v : Value) (h : AHeap) : Bool := match alCS E ρ op, blkOf v with
  | some p, some n => match h.get n with
    | .cells vs e none false => eqL1 p.1 vs && Nat.beq p.2 e
    | _ => false
  | _, _ => false
theorem still_S (E : Env) (tm : PT Value) (op : Op) (v : Value) (h : AHeap) : still E tm op v h = stillS E (opnd tm) op v h := by cases op <;> rfl
def recheckS (E : Env) (call : Call) (ops : Array Oper) (mask : Nat) (h' : AHeap) (cont : Option Ans) : List (Nat × St × Value) → Option Ans
  | [] => cont
  | x :: r => match mask.testBit x.1 with
    | true => recheckS E call ops mask h' cont r
    | false => ob ops[x.1]? fun o => match isAl o with
      | true => match stillS E (opndS x.2.1) o.op x.2.2 h' with
        | true => recheckS E call ops mask h' cont r
        | false => none
      | false => ans (evOpR E call o.op (opndS x.2.1) h' rety nopan) (fun v _ => match eqV v x.2.2 with
        | true => recheckS E call ops mask h' cont r
        | false => none) (fun _ _ => none)
def evDrS (E : Env) (call : Call) (ops : Array Oper) (bs : List Nat) : List Nat → Bool → List (Nat × St × Value) → St → AHeap → KS → Option Ans
  | [], _, _, σ, h, k => k .normal σ h
  | i :: rest, ho, fl, σ, h, k => ob ops[i]? fun o => evGuardS ops o σ
    (fun σ => ans (evOpR E call o.op (opndS σ) h rety nopan) (fun v h' => match isEv o with
      | true => match ho && isAl o with
        | true => recheckS E call ops 0 h' (evDrS E call ops bs rest true ((i, σ, v) :: fl) (putS σ o.dst v) h' k) ((i, σ, v) :: fl)
        | false => recheckS E call ops (bs.getD i 0) h' (evDrS E call ops bs rest false fl (putS σ o.dst v) h' k) fl
      | false => evDrS E call ops bs rest ho ((i, σ, v) :: fl) (putS σ o.dst v) h' k) (fun _ _ => none))
    (fun σ => evDrS E call ops bs rest (ho && (isAl o || !isEv o)) fl (putS σ o.dst undef) h k)
def loopS (body : St → AHeap → KS → Option Ans) : Nat → St → AHeap → KS → Option Ans
  | 0, _, _, _ => none
  | n + 1, σ, h, k => body σ h fun e σ h => match e with
    | .normal => loopS body n σ h k
    | e => k e σ h
def evDrawS (E : Env) (call : Call) (D : Dr) (id : Nat) (ops : Array Oper) (σ : St) (h : AHeap) (k : KS) : Option Ans :=
  ob (D.get id) fun p => evDrS E call ops p.1 p.2 true [] σ h k
def hSeq (f : St → AHeap → Option Ans) (k : KS) : KS := fun e σ h => match e with
  | .normal => f σ h
  | e => k e σ h
def hBlk (id : Nat) (k : KS) : KS := fun e σ h => match e with
  | .exit j => match Nat.beq j id with
    | true => k .normal σ h
    | false => k (.exit j) σ h
  | e => k e σ h
@[simp] theorem hSeq_normal (f : St → AHeap → Option Ans) (k : KS) (σ : St) (h : AHeap) : hSeq f k .normal σ h = f σ h := (rfl)
@[simp] theorem hSeq_exit (f : St → AHeap → Option Ans) (k : KS) (σ : St) (h : AHeap) (j : Nat) : hSeq f k (.exit j) σ h = k (.exit j) σ h := (rfl)
@[simp] theorem hSeq_ret (f : St → AHeap → Option Ans) (k : KS) (σ : St) (h : AHeap) : hSeq f k .ret σ h = k .ret σ h := (rfl)
@[simp] theorem hSeq_panic (f : St → AHeap → Option Ans) (k : KS) (σ : St) (h : AHeap) (v : Value) : hSeq f k (.panic v) σ h = k (.panic v) σ h := (rfl)
@[simp] theorem hBlk_normal (id : Nat) (k : KS) (σ : St) (h : AHeap) : hBlk id k .normal σ h = k .normal σ h := (rfl)
@[simp] theorem hBlk_same (id : Nat) (k : KS) (σ : St) (h : AHeap) : hBlk id k (.exit id) σ h = k .normal σ h := by simp [hBlk]
theorem hBlk_ne {id j : Nat} (k : KS) (σ : St) (h : AHeap) (e : j ≠ id) : hBlk id k (.exit j) σ h = k (.exit j) σ h := by
  have : Nat.beq j id = false := by
    cases hb : Nat.beq j id with
    | false => rfl
    | true => exact absurd (Nat.eq_of_beq_eq_true hb) e
  simp [hBlk, this]
@[simp] theorem hBlk_ret (id : Nat) (k : KS) (σ : St) (h : AHeap) : hBlk id k .ret σ h = k .ret σ h := (rfl)
@[simp] theorem hBlk_panic (id : Nat) (k : KS) (σ : St) (h : AHeap) (v : Value) : hBlk id k (.panic v) σ h = k (.panic v) σ h := (rfl)
/-! A range over a function. -/
def setPsS : List Tmp → List Value → St → St
  | t :: ts, v :: vs, σ => setPsS ts vs (upd σ t v)
  | _, _, σ => σ
def hAsg (f : St → AHeap → Option Ans) : KS := fun e σ h => match e with
  | .normal => f σ h
  | _ => none
def hRnd (next : AHeap → Option Ans) (σ : St) (k : KS) : KS := fun e _ h => match e with
  | .normal => next h
  | .panic _ => none
  | e => k e σ h
@[simp] theorem hAsg_normal (f : St → AHeap → Option Ans) (σ : St) (h : AHeap) : hAsg f .normal σ h = f σ h := (rfl)
@[simp] theorem hRnd_normal (next : AHeap → Option Ans) (σ σ' : St) (k : KS) (h : AHeap) : hRnd next σ k .normal σ' h = next h := (rfl)
@[simp] theorem hRnd_ret (next : AHeap → Option Ans) (σ σ' : St) (k : KS) (h : AHeap) : hRnd next σ k .ret σ' h = k .ret σ h := (rfl)
@[simp] theorem hRnd_exit (next : AHeap → Option Ans) (σ σ' : St) (k : KS) (h : AHeap) (j : Nat) : hRnd next σ k (.exit j) σ' h = k (.exit j) σ h := (rfl)
def rfS (nx : List Value → AHeap → Option (Option (List Value × List Value))) (rd : List Value → AHeap → KS → Option Ans) (k : KS) (σ : St) : Nat → List Value → AHeap → Option Ans
  | 0, _, _ => none
  | n + 1, st, h => ob (nx st h) fun x => match x with
    | none => k .normal σ h
    | some p => rd p.1 h (hRnd (fun h' => rfS nx rd k σ n p.2 h') σ k)
def roundS (ps : List Tmp) (X Y : St → AHeap → KS → Option Ans) (σ : St) (args : List Value) (h : AHeap) (k : KS) : Option Ans := match Nat.beq args.length ps.length with
  | true => X (setPsS ps args σ) h (hAsg fun σ h => Y σ h k)
  | false => none
def rangeS (T : PT Iter) (g : Value) (ps : List Tmp) (X Y : St → AHeap → KS → Option Ans) (lf : Nat) (σ : St) (h : AHeap) (k : KS) : Option Ans :=
  ob (fnOf g) fun p => ob (T.get p.1) fun it => ob (it.start p.2 h) fun st => rfS (it.next p.2) (roundS ps X Y σ) k σ lf st h
def evCodeS (E : Env) (call : Call) (D : Dr) (lf : Nat) : Code → St → AHeap → KS → Option Ans
  | .skip, σ, h, k => k .normal σ h
  | .region _ ops false, σ, h, k => evOpsS E call ops ops.toList σ h k
  | .region id ops true, σ, h, k => evDrawS E call D id ops σ h k
  | .seq a b, σ, h, k => evCodeS E call D lf a σ h (hSeq (fun σ h => evCodeS E call D lf b σ h k) k)
  | .cond c x y, σ, h, k => ob (bool? (opndS σ c)) fun b => cond b (evCodeS E call D lf x σ h k) (evCodeS E call D lf y σ h k)
  | .block id b, σ, h, k => evCodeS E call D lf b σ h (hBlk id k)
  | .loop b, σ, h, k => loopS (fun σ h k => evCodeS E call D lf b σ h k) lf σ h k
  | .exit id, σ, h, k => k (.exit id) σ h
  | .ret, σ, h, k => k .ret σ h
  | .rangeFunc g ps x y, σ, h, k => rangeS E.it (opndS σ g) ps.toList (fun σ h k => evCodeS E call D lf x σ h k) (fun σ h k => evCodeS E call D lf y σ h k) lf σ h k
  | _, _, _, _ => none
def st0 : List Value → Nat → Value
  | [], _ => undef
  | v :: _, 0 => v
  | _ :: r, n + 1 => st0 r n
def evResS (E : Env) (σ : St) (h : AHeap) : List ResultVar → (List Value → Option Ans) → Option Ans
  | [], f => f []
  | .tmp t :: r, f => evResS E σ h r fun l => f (σ t :: l)
  | .cell a t :: r, f => ob (E.ti.get t) fun i => ob (ptr? (σ a)) fun p => ob p fun p => h.ld i p.block p.off fun v => evResS E σ h r fun l => f (v :: l)
/-- A function's text, the calls' answers told. -/
def evB (E : Env) (call : Call) (lf : Nat) (f : FuncId) (args : List Value) (h : AHeap) : Option Ans :=
  ob (E.fn.get f) fun fn => ob fn.body fun c => evCodeS E call (drOf E f) lf c (st0 args) h fun e σ h => match e with
      | .normal | .ret => evResS E σ h fn.results.toList fun l => some (.ret (retOf l) h)
      | .panic v => some (.panic v h)
      | _ => none

/-! ### It is the same machine -/
def TS (tm : PT Value) (σ : St) : Prop := ∀ t, opnd tm (.tmp t) = σ t
theorem TS.opnd {tm : PT Value} {σ : St} (h : TS tm σ) : Amb.opnd tm = opndS σ := by
  funext x
  cases x with
  | tmp t => exact h t
  | const v => rfl
  | global g => rfl
  | func f => rfl
theorem TS.put {tm : PT Value} {σ : St} (h : TS tm σ) (d : Option Tmp) (v : Value) : TS (Amb.put tm d v) (putS σ d v) := by
  intro t
  cases d with
  | none => exact h t
  | some d =>
    simp only [Amb.put, putS, upd, Amb.opnd, PT.get_set]
    by_cases e : t = d
    · subst e; simp
    · have : Nat.beq t d = false := by
        cases hb : Nat.beq t d with
        | false => rfl
        | true => exact absurd (Nat.eq_of_beq_eq_true hb) e
      simp only [if_neg e, this, cond_false]
      exact h t
theorem TS.set {tm : PT Value} {σ : St} (h : TS tm σ) (d : Nat) (v : Value) : TS (tm.set d (some v)) (upd σ d v) := h.put (some d) v
theorem TS.same_upd {tm : PT Value} {σ : St} (h : TS tm σ) (d : Nat) (v : Value) (e : σ d = v) : TS tm (upd σ d v) := by
  intro t
  unfold upd
  by_cases c : t = d
  · subst c; rw [h t, e, Nat.beq_refl]; rfl
  · have : Nat.beq t d = false := by
      cases hb : Nat.beq t d with
      | false => rfl
      | true => exact absurd (Nat.eq_of_beq_eq_true hb) c
    rw [this, cond_false]
    exact h t
def KSim (k : KX) (k' : KS) : Prop := ∀ e tm σ h, TS tm σ → k e tm h = k' e σ h

theorem evGuard_S {ops : Array Oper} {o : Oper} {tm : PT Value} {σ : St} (T : TS tm σ) {yes no : PT Value → Option Ans} {yes' no' : St → Option Ans} (hy : ∀ tm σ, TS tm σ → yes tm = yes' σ) (hn : ∀ tm σ, TS tm σ → no tm = no' σ) :
    evGuard ops o tm yes no = evGuardS ops o σ yes' no' := by
  unfold evGuard evGuardS
  cases o.guard with
  | none => exact hy _ _ T
  | some p =>
    obtain ⟨j, want⟩ := p
    simp only
    cases gslot ops j with
    | none => rfl
    | some d =>
      simp only [ob_some]
      rw [T d]
      cases hσ : σ d with
      | bool b => cases b <;> cases want <;> first | exact hy _ _ (T.set d _) | exact hn _ _ (T.set d _)
      | tuple c => exact hn _ _ (T.same_upd d _ hσ)
      | _ => rfl
theorem evOps_S (E : Env) (call : Call) (ops : Array Oper) : ∀ (l : List Oper) {tm : PT Value} {σ : St} {h : AHeap} {k : KX} {k' : KS}, TS tm σ → KSim k k' → evOps E call ops l tm h k = evOpsS E call ops l σ h k' := by
  intro l
  induction l with
  | nil => intro tm σ h k k' T K; exact K _ _ _ _ T
  | cons o rest ih =>
    intro tm σ h k k' T K
    refine evGuard_S T (fun tm σ T => ?_) (fun tm σ T => ih (T.put _ _) K)
    rw [evOpX_R, T.opnd]
    have e1 : (fun v h' => evOps E call ops rest (put tm o.dst v) h' k) = fun v h' => evOpsS E call ops rest (putS σ o.dst v) h' k' := by funext v h'; exact ih (T.put _ _) K
    have e2 : (fun v h' => k (.panic v) tm h') = fun v h' => k' (.panic v) σ h' := by funext v h'; exact K _ _ _ _ T
    rw [e1, e2]
inductive FlS : List (Nat × PT Value × Value) → List (Nat × St × Value) → Prop
  | nil : FlS [] []
  | cons {i : Nat} {tm : PT Value} {σ : St} {v : Value} {a : List (Nat × PT Value × Value)} {b : List (Nat × St × Value)} (T : TS tm σ) (h : FlS a b) : FlS ((i, tm, v) :: a) ((i, σ, v) :: b)
theorem recheck_S (E : Env) (call : Call) (ops : Array Oper) (mask : Nat) (h' : AHeap) {c c' : Option Ans} (hc : c = c') {a : List (Nat × PT Value × Value)} {b : List (Nat × St × Value)} (F : FlS a b) :
    recheck E call ops mask h' c a = recheckS E call ops mask h' c' b := by
  induction F with
  | nil => exact hc
  | cons T F ih =>
    simp only [recheck, recheckS]
    rw [ih]
    simp only [still_S, evOp_R, T.opnd]
    rfl
theorem evDr_S (E : Env) (call : Call) (ops : Array Oper) (bs : List Nat) : ∀ (C : List Nat) {ho : Bool} {a : List (Nat × PT Value × Value)} {b : List (Nat × St × Value)} {tm : PT Value} {σ : St} {h : AHeap} {k : KX} {k' : KS}, FlS a b → TS tm σ → KSim k k' →
    evDr E call ops bs C ho a tm h k = evDrS E call ops bs C ho b σ h k' := by
  intro C
  induction C with
  | nil => intro ho a b tm σ h k k' F T K; exact K _ _ _ _ T
  | cons i C ih =>
    intro ho a b tm σ h k k' F T K
    simp only [evDr, evDrS]
    congr 1
    funext o
    refine evGuard_S T (fun tm σ T => ?_) (fun tm σ T => ih F (T.put _ _) K)
    rw [evOp_R, T.opnd]
    congr 1
    funext v h'
    cases isEv o with
    | true =>
      cases ho && isAl o with
      | true => exact recheck_S E call ops 0 h' (ih (F.cons T) (T.put _ _) K) (F.cons T)
      | false => exact recheck_S E call ops _ h' (ih F (T.put _ _) K) F
    | false => exact ih (F.cons T) (T.put _ _) K
theorem loop_S {body : PT Value → AHeap → KX → Option Ans} {body' : St → AHeap → KS → Option Ans} (hb : ∀ tm σ h k k', TS tm σ → KSim k k' → body tm h k = body' σ h k') :
    ∀ (n : Nat) {tm : PT Value} {σ : St} {h : AHeap} {k : KX} {k' : KS}, TS tm σ → KSim k k' → loopE body n tm h k = loopS body' n σ h k' := by
  intro n
  induction n with
  | zero => intro tm σ h k k' _ _; rfl
  | succ n ih =>
    intro tm σ h k k' T K
    refine hb _ _ _ _ _ T fun e tm σ h T => ?_
    cases e with
    | normal => exact ih T K
    | _ => exact K _ _ _ _ T
theorem setPs_S : ∀ (ps : List Tmp) (args : List Value) {tm : PT Value} {σ : St}, TS tm σ → TS (setPs ps args tm) (setPsS ps args σ) := by
  intro ps
  induction ps with
  | nil => intro args tm σ T; exact T
  | cons p ps ih => intro args tm σ T; cases args with
    | nil => exact T
    | cons v args => exact ih args (T.set p v)
theorem rf_S {nx : List Value → AHeap → Option (Option (List Value × List Value))} {rd : List Value → AHeap → KX → Option Ans} {rd' : List Value → AHeap → KS → Option Ans} (hrd : ∀ args h k k', KSim k k' → rd args h k = rd' args h k')
    {k : KX} {k' : KS} {tm : PT Value} {σ : St} (T : TS tm σ) (K : KSim k k') : ∀ (n : Nat) (st : List Value) (h : AHeap), rfE nx rd k tm n st h = rfS nx rd' k' σ n st h := by
  intro n
  induction n with
  | zero => intro st h; rfl
  | succ n ih =>
    intro st h
    simp only [rfE, rfS]
    congr 1
    funext x
    cases x with
    | none => exact K _ _ _ _ T
    | some p =>
      refine hrd _ _ _ _ fun e tm' σ' h' T' => ?_
      cases e with
      | normal => exact ih _ _
      | panic v => rfl
      | exit id => exact K _ _ _ _ T
      | ret => exact K _ _ _ _ T
theorem evCode_S (E : Env) (call : Call) (D : Dr) (lf : Nat) : ∀ (c : Code) {tm : PT Value} {σ : St} {h : AHeap} {k : KX} {k' : KS}, TS tm σ → KSim k k' → evCode E call (evDraw E call D) lf c tm h k = evCodeS E call D lf c σ h k' := by
  intro c
  induction c with
  | skip => intro tm σ h k k' T K; exact K _ _ _ _ T
  | region id ops dr =>
    intro tm σ h k k' T K
    cases dr with
    | false => exact evOps_S E call ops _ T K
    | true =>
      show evDraw E call D id ops tm h k = evDrawS E call D id ops σ h k'
      unfold evDraw evDrawS
      congr 1
      funext p
      exact evDr_S E call ops _ _ .nil T K
  | seq a b iha ihb =>
    intro tm σ h k k' T K
    refine iha T fun e tm σ h T => ?_
    cases e with
    | normal => exact ihb T K
    | _ => exact K _ _ _ _ T
  | cond c x y ihx ihy =>
    intro tm σ h k k' T K
    simp only [evCode, evCodeS]
    rw [T.opnd, ihx T K, ihy T K]
  | block id b ih =>
    intro tm σ h k k' T K
    refine ih T fun e tm σ h T => ?_
    cases e with
    | exit j => simp only [hBlk]; cases Nat.beq j id <;> exact K _ _ _ _ T
    | _ => exact K _ _ _ _ T
  | loop b ih =>
    intro tm σ h k k' T K
    exact loop_S (body := fun tm h k => evCode E call (evDraw E call D) lf b tm h k) (body' := fun σ h k => evCodeS E call D lf b σ h k) (fun tm σ h k k' T K => ih T K) lf T K
  | exit id => intro tm σ h k k' T K; exact K _ _ _ _ T
  | ret => intro tm σ h k k' T K; exact K _ _ _ _ T
  | rangeFunc g ps x y ihx ihy =>
    intro tm σ h k k' T K
    simp only [evCode, evCodeS, rangeS]
    rw [T.opnd]
    congr 1
    funext p
    congr 1
    funext it
    congr 1
    funext st
    refine rf_S (fun args h k k' K => ?_) T K lf st h
    unfold roundS
    cases Nat.beq args.length ps.toList.length with
    | false => rfl
    | true =>
      refine ihx (setPs_S _ _ T) fun e tm σ h T => ?_
      cases e with
      | normal => exact ihy T K
      | _ => rfl
  | _ => intros; rfl
theorem evRes_S (E : Env) {tm : PT Value} {σ : St} (T : TS tm σ) (h : AHeap) : ∀ (l : List ResultVar) (f : List Value → Option Ans), evRes E tm h l f = evResS E σ h l f := by
  intro l
  induction l with
  | nil => intro f; rfl
  | cons r l ih =>
    intro f
    cases r with
    | tmp t => simp only [evRes, evResS]; rw [ih, T t]
    | cell a t =>
      simp only [evRes, evResS]
      rw [T a]
      congr 1
      funext i
      congr 1
      funext p
      congr 1
      funext p
      congr 1
      funext v
      exact ih _
theorem tm0_S (args : List Value) : TS (tm0 args 0 .leaf) (st0 args) := by
  have key : ∀ (l : List Value) (t : Nat), st0 l t = (l[t]?).getD undef := by
    intro l
    induction l with
    | nil => intro t; rfl
    | cons v l ih => intro t; cases t with
      | zero => rfl
      | succ t => exact ih t
  intro t
  rw [key]
  simp only [Amb.opnd, get_tm0, Nat.zero_le, true_and, Nat.zero_add, Nat.sub_zero]
  by_cases c : t < args.length
  · rw [if_pos c]; cases hq : args[t]? <;> rfl
  · rw [if_neg c, List.getElem?_eq_none (Nat.le_of_not_lt c)]; rfl
/-- A function by its text. -/
theorem evF_B (E : Env) (X : Call) (n : Nat) (f : FuncId) (args : List Value) (h : AHeap) (hx : E.ext.get f = none) : evF E X (n + 1) f args h = evB E (evF E X n) n f args h := by
  simp only [evF, hx, evB]
  congr 1
  funext fn
  congr 1
  funext c
  refine evCode_S E _ _ n c (tm0_S args) fun e tm σ h T => ?_
  cases e with
  | normal => exact evRes_S E T h _ _
  | ret => exact evRes_S E T h _ _
  | _ => rfl
theorem evF_X (E : Env) (X : Call) (n : Nat) (f : FuncId) (args : List Value) (h : AHeap) (hx : E.ext.get f = some ()) : evF E X (n + 1) f args h = X f args h := by
  simp only [evF, hx]
end Go.Amb
