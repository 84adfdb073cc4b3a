/- Part of the proof by the abstract machine: no claim of its own. -/
import Derived.Test.YtnfncnchbogncaaDoorA22
set_option linter.unusedSimpArgs false
set_option linter.unusedVariables false
set_option linter.unnecessarySimpa false
set_option linter.unusedSectionVars false
/- The abstract machine, part 23: the words into which a function's text is put. -/
set_option linter.unusedVariables false
namespace Go.Amb

def updL (σ : St) : List (Nat × Value) → St
  | [] => σ
  | (t, v) :: r => upd (updL σ r) t v
abbrev K1 := Value → Option Ans
abbrev K2 := Value → AHeap → Option Ans

def cLoad1 (k : LK) (x : Value) (h : AHeap) (K : K1) : Option Ans := ob (ptr? x) fun a => ob a fun a => h.ld1 a.block a.off k K
def cLoadA (ks : List LK) (x : Value) (h : AHeap) (K : K1) : Option Ans := ob (ptr? x) fun a => ob a fun a => h.ldL a.block ks a.off fun l => K (.agg l.toArray)
def cStore (n : Nat) (x v : Value) (h : AHeap) (K : AHeap → Option Ans) : Option Ans := ob (ptr? x) fun a => ob a fun a => match Nat.beq v.cells.toList.length n with
  | true => ob (h.st a.block a.off v.cells.toList) K
  | false => none
def cNew (cs : List Value) (t : TypeId) (h : AHeap) (K : K2) : Option Ans := K (.pointer (some ⟨h.next, 0, none⟩)) (h.new (.cells cs t none false))
def cFieldAddr (o : Nat) (x : Value) (K : K1) : Option Ans := ob (ptr? x) fun a => ob a fun a => K (.pointer (some ⟨a.block, a.off + o, none⟩))
def cField1 (o : Nat) (x : Value) (K : K1) : Option Ans := ob (agg? x) fun l => ob l[o]? K
def cFieldA (o n : Nat) (x : Value) (K : K1) : Option Ans := ob (agg? x) fun l => K (.agg ((l.drop o).take n).toArray)
def cIdxS (sz : Nat) (x ix : Value) (K : K1) : Option Ans := ob (num? ix) fun n => ob (slc? x) fun s => ob s.a fun a => ob (idx? n.2 s.len) fun q => K (.pointer (some ⟨a.block, a.off + q * sz, none⟩))
def cIdxA (sz len : Nat) (x ix : Value) (K : K1) : Option Ans := ob (num? ix) fun n => ob (ptr? x) fun a => ob a fun a => ob (idx? n.2 len) fun q => K (.pointer (some ⟨a.block, a.off + q * sz, none⟩))
def cIdxStr (x ix : Value) (K : K1) : Option Ans := ob (num? ix) fun n => match x with
  | .string s => ob (idx? n.2 s.size) fun q => ob (s.data.toList[q]?) fun b => K (.int .u8 b.toNat)
  | _ => none
def cLenS (x : Value) (K : K1) : Option Ans := match x with
  | .slice _ n _ => K (.int .i64 n)
  | _ => none
def cLenStr (x : Value) (K : K1) : Option Ans := match x with
  | .string s => K (.int .i64 s.size)
  | _ => none
def cMin (x y : Value) (K : K1) : Option Ans := match x, y with
  | .int kx a, .int _ b => K (.int kx (if b < a then b else a))
  | _, _ => none
def cMax (x y : Value) (K : K1) : Option Ans := match x, y with
  | .int kx a, .int _ b => K (.int kx (if b > a then b else a))
  | _, _ => none
def cAppend (e : TypeId) (sz bys : Nat) (s x : Value) (h : AHeap) (K : K2) : Option Ans := ob (slc? s) fun sl => ob (srcOf h sz x) fun p => ob (h.app e sz bys sl p.1 p.2) fun q => K (.slice q.1.a q.1.len q.1.cap) q.2
def cCopy (sz : Nat) (d s : Value) (h : AHeap) (K : K2) : Option Ans := ob (slc? d) fun dl => ob (srcOf h sz s) fun p => match Nat.ble p.1 dl.len, dl.a with
  | true, none => K (.int .i64 p.1) h
  | true, some a => ob (h.st a.block a.off p.2) fun h' => K (.int .i64 p.1) h'
  | _, _ => none
def fillP : List (Nat × Nat × Value) → List Value → Option (List Value)
  | [], cells => some cells
  | (o, len, v) :: r, cells => match Nat.beq v.cells.toList.length len && Nat.ble (o + len) cells.length with
    | true => fillP r (putL cells o v.cells.toList)
    | false => none
def cBuild (ps : List (Nat × Nat × Value)) (zs : List Value) (K : K1) : Option Ans := ob (ob (fillP ps zs) fun l => some (.agg l.toArray)) K
def cBuildS (e n : Nat) (ps : List (Nat × Nat × Value)) (zs : List Value) (h : AHeap) (K : K2) : Option Ans := ob (fillP ps zs) fun l => K (.slice (some ⟨h.next, 0, none⟩) n n) (h.new (.cells l e none false))
def cMakeS (e : Nat) (zs : List Value) (bys : Nat) (l c : Value) (h : AHeap) (K : K2) : Option Ans := ob (num? l) fun n => ob (num? c) fun m =>
  match decide (0 ≤ n.2) && decide (n.2 ≤ m.2) && decide (m.2 * bys ≤ AHeap.most) && decide (m.2 ≤ AHeap.most) with
  | true => K (.slice (some ⟨h.next, 0, none⟩) n.2.toNat m.2.toNat) (h.new (.cells (repL zs m.2.toNat) e none false))
  | false => none
def cSliceS (sz : Nat) (x : Value) (lo hi mx : Option Value) (h : AHeap) (K : K1) : Option Ans := match x with
  | .slice a len cap => ob (slcB len cap lo hi mx) fun b => match a with
    | none => K (.slice none (b.2.1 - b.1) (b.2.2 - b.1))
    | some a => match h.szOk a.block sz with
      | true => K (.slice (some ⟨a.block, a.off + b.1 * sz, none⟩) (b.2.1 - b.1) (b.2.2 - b.1))
      | false => none
  | _ => none
def cSliceStr (x : Value) (lo hi : Option Value) (K : K1) : Option Ans := match x with
  | .string s => ob (slcB s.size s.size lo hi none) fun b => K (.string (s.extract b.1 b.2.1))
  | _ => none
def cNilCheck (x : Value) (K : K1) : Option Ans := match x with
  | .pointer a => ob a fun a => K (.pointer (some a))
  | .iface t v => K (.iface t v)
  | _ => none
def cBin (E : Env) (op : BinOp) (t : TypeId) (x y : Value) (K : K1) : Option Ans := ob (binV E op t x y) K
def cUn (op : UnOp) (x : Value) (K : K1) : Option Ans := ob (unV op x) K
def cPick (c a b : Value) (K : K1) : Option Ans := ob (bool? c) fun t => cond t (K a) (K b)
def cExtract (x : Value) (i : Nat) (K : K1) : Option Ans := ob (tup? x) fun l => ob l[i]? K
def cIf (c : Value) (x y : Option Ans) : Option Ans := ob (bool? c) fun b => cond b x y
def asTIL (i : Bool × List LK) (v : Value) (f : K1) : Option Ans := match i.1 with
  | true => ob (agg? v) fun l => asLKs i.2 l fun l' => f (.agg l'.toArray)
  | false => match i.2 with
    | [k] => asLK k v f
    | _ => none
def asResL : List (Bool × List LK) → List Value → (List Value → Option Ans) → Option Ans
  | [], l, f => asNil l (f [])
  | t :: ts, l, f => ob l.head? fun v => asTIL t v fun v' => asResL ts l.tail fun r => f (v' :: r)
def asRetL (ts : List (Bool × List LK)) (v : Value) (f : K1) : Option Ans := match ts with
  | [] => ob (tup? v) fun l => asNil l (f (.tuple #[]))
  | [t] => asTIL t v f
  | ts => ob (tup? v) fun l => asResL ts l fun r => f (.tuple r.toArray)
def cCall (call : Call) (f : FuncId) (args : List Value) (ts : List (Bool × List LK)) (h : AHeap) (K kp : K2) : Option Ans := ans (call f args h) (fun v h' => asRetL ts v fun v' => K v' h') kp
def cCallV (E : Env) (call : Call) (f : Value) (args : List Value) (h : AHeap) (K kp : K2) : Option Ans := match f with
  | .func (.func g) first cap => evCall E call g (first.toList ++ args ++ cap.toList) h K kp
  | _ => none
def gd (x : Value) (A B : Option Ans) (C : Array Value → Option Ans) : Option Ans := match x with
  | .bool b => cond b A B
  | .tuple c => C c
  | _ => none
def idR : Operand → Value
  | .const v => v
  | _ => undef
def dr (x : Option Ans) (K : K2) : Option Ans := ans x K fun _ _ => none
def rk (x : Option Ans) (v : Value) (C : Option Ans) : Option Ans := ans x (fun v' _ => match eqV v' v with
  | true => C
  | false => none) fun _ _ => none
def hkB (a : Option (List Value × TypeId)) (v : Value) (h : AHeap) : Bool := match a, blkOf v with
  | some p, some n => match h.get n with
    | .cells vs e none false => eqL1 p.1 vs && Nat.beq p.2 e
    | _ => false
  | _, _ => false
def hk (a : Option (List Value × TypeId)) (v : Value) (h : AHeap) (C : Option Ans) : Option Ans := match hkB a v h with
  | true => C
  | false => none
def finS (E : Env) (rs : List ResultVar) : KS := fun e σ h => match e with
  | .normal | .ret => evResS E σ h rs fun l => some (.ret (retOf l) h)
  | .panic v => some (.panic v h)
  | _ => none

/-! ### A text put into words piece by piece -/
def cAt : List Nat → Code → Code
  | [], c => c
  | 0 :: r, .seq a _ => cAt r a
  | 1 :: r, .seq _ b => cAt r b
  | 0 :: r, .cond _ a _ => cAt r a
  | 1 :: r, .cond _ _ b => cAt r b
  | 0 :: r, .block _ b => cAt r b
  | 0 :: r, .loop b => cAt r b
  | _, c => c
def bodyOf (f : Func) : Code := match f.body with
  | some c => c
  | none => .skip
section
variable {E : Env} {call : Call} {D : Dr} {lf : Nat} {σ : St} {h : AHeap} {K : KS} {R R' : Option Ans}
theorem seq_eq {c a b : Code} {B : St → AHeap → Option Ans} (e : c = .seq a b) (hb : ∀ σ h, evCodeS E call D lf b σ h K = B σ h) (ha : evCodeS E call D lf a σ h (hSeq B K) = R) : evCodeS E call D lf c σ h K = R := by
  rw [e, ← ha]
  have : (fun σ h => evCodeS E call D lf b σ h K) = B := by funext σ h; exact hb σ h
  rw [← this]
  rfl
theorem cond_eq {c a b : Code} {x : Operand} (e : c = .cond x a b) (ha : evCodeS E call D lf a σ h K = R) (hb : evCodeS E call D lf b σ h K = R') : evCodeS E call D lf c σ h K = cIf (opndS σ x) R R' := by
  rw [e, ← ha, ← hb]
  rfl
theorem blk_eq {c b : Code} {i : Nat} (e : c = .block i b) (hb : evCodeS E call D lf b σ h (hBlk i K) = R) : evCodeS E call D lf c σ h K = R := by
  rw [e, ← hb]
  rfl
theorem loop_eq {c b : Code} {L : St → AHeap → KS → Option Ans} (e : c = .loop b) (hb : ∀ σ h k, evCodeS E call D lf b σ h k = L σ h k) : evCodeS E call D lf c σ h K = loopS L lf σ h K := by
  rw [e]
  have : (fun σ h k => evCodeS E call D lf b σ h k) = L := by funext σ h k; exact hb σ h k
  rw [← this]
  rfl
theorem evB_eq {f : FuncId} {g : Func} {c : Code} {args : List Value} (e1 : E.fn.get f = some g) (e2 : g.body = some c) (hc : evCodeS E call (drOf E f) lf c (st0 args) h (finS E g.results.toList) = R) : evB E call lf f args h = R := by
  unfold evB
  rw [e1, ob_some, e2, ob_some, ← hc]
  congr 1
end
end Go.Amb
