/- Part of the proof by the abstract machine: no claim of its own. -/
import Derived.Orders
import Derived.Below
set_option linter.unusedSimpArgs false
set_option linter.unusedVariables false
set_option linter.unnecessarySimpa false
set_option linter.unusedSectionVars false
/- The abstract machine, part 1: tries, abstract heaps, how abstract values stand for real ones. -/
set_option linter.unusedVariables false
namespace Go.Amb

/-! ### Tries over natural numbers -/
inductive PT (α : Type) where
  | leaf
  | node (l : PT α) (v : Option α) (r : PT α)

namespace PT
variable {α : Type}
def get : PT α → Nat → Option α
  | .leaf, _ => none
  | .node l v r, n => match Nat.beq n 0 with
    | true => v
    | false => match Nat.beq (n % 2) 1 with
      | true => l.get (n / 2)
      | false => r.get (n / 2 - 1)
def setF : Nat → PT α → Nat → Option α → PT α
  | 0, t, _, _ => t
  | f + 1, .leaf, n, x => match Nat.beq n 0 with
    | true => .node .leaf x .leaf
    | false => match Nat.beq (n % 2) 1 with
      | true => .node (setF f .leaf (n / 2) x) none .leaf
      | false => .node .leaf none (setF f .leaf (n / 2 - 1) x)
  | f + 1, .node l v r, n, x => match Nat.beq n 0 with
    | true => .node l x r
    | false => match Nat.beq (n % 2) 1 with
      | true => .node (setF f l (n / 2) x) v r
      | false => .node l v (setF f r (n / 2 - 1) x)
def set (t : PT α) (n : Nat) (x : Option α) : PT α := setF (n + 1) t n x

theorem get_leaf (n : Nat) : (PT.leaf : PT α).get n = none := rfl

theorem get_setF (x : Option α) : ∀ (f : Nat) (t : PT α) (n m : Nat), n < f → (setF f t n x).get m = if m = n then x else t.get m := by
  intro f
  induction f with
  | zero => intro t n m h; omega
  | succ f ih =>
    intro t n m h
    have key : ∀ (l r : PT α) (v : Option α), (match Nat.beq n 0 with
        | true => PT.node l x r
        | false => match Nat.beq (n % 2) 1 with
          | true => PT.node (setF f l (n / 2) x) v r
          | false => PT.node l v (setF f r (n / 2 - 1) x)).get m = if m = n then x else (PT.node l v r).get m := by
      intro l r v
      cases h0 : Nat.beq n 0 with
      | true =>
        have hn : n = 0 := Nat.eq_of_beq_eq_true h0
        subst hn
        cases hm : Nat.beq m 0 with
        | true =>
          have : m = 0 := Nat.eq_of_beq_eq_true hm
          subst this
          simp [get]
        | false =>
          have : m ≠ 0 := Nat.ne_of_beq_eq_false hm
          simp [get, hm, this]
      | false =>
        have hn : n ≠ 0 := Nat.ne_of_beq_eq_false h0
        cases h1 : Nat.beq (n % 2) 1 with
        | true =>
          have hn1 : n % 2 = 1 := Nat.eq_of_beq_eq_true h1
          cases hm : Nat.beq m 0 with
          | true =>
            have : m = 0 := Nat.eq_of_beq_eq_true hm
            subst this
            have : ¬ 0 = n := fun e => hn e.symm
            simp [get, this]
          | false =>
            have hm0 : m ≠ 0 := Nat.ne_of_beq_eq_false hm
            cases hm1 : Nat.beq (m % 2) 1 with
            | true =>
              have hm2 : m % 2 = 1 := Nat.eq_of_beq_eq_true hm1
              simp only [get, hm, hm1]
              rw [ih _ _ _ (by omega)]
              by_cases e : m = n
              · simp [e]
              · have : ¬ m / 2 = n / 2 := by omega
                simp [e, this]
            | false =>
              have hm2 : m % 2 ≠ 1 := Nat.ne_of_beq_eq_false hm1
              have : ¬ m = n := by intro e; subst e; exact hm2 hn1
              simp [get, hm, hm1, this]
        | false =>
          have hn1 : n % 2 ≠ 1 := Nat.ne_of_beq_eq_false h1
          cases hm : Nat.beq m 0 with
          | true =>
            have : m = 0 := Nat.eq_of_beq_eq_true hm
            subst this
            have : ¬ 0 = n := fun e => hn e.symm
            simp [get, this]
          | false =>
            have hm0 : m ≠ 0 := Nat.ne_of_beq_eq_false hm
            cases hm1 : Nat.beq (m % 2) 1 with
            | true =>
              have hm2 : m % 2 = 1 := Nat.eq_of_beq_eq_true hm1
              have : ¬ m = n := by intro e; subst e; exact hn1 hm2
              simp [get, hm, hm1, this]
            | false =>
              have hm2 : m % 2 ≠ 1 := Nat.ne_of_beq_eq_false hm1
              simp only [get, hm, hm1]
              rw [ih _ _ _ (by omega)]
              by_cases e : m = n
              · simp [e]
              · have : ¬ m / 2 - 1 = n / 2 - 1 := by omega
                simp [e, this]
    cases t with
    | leaf =>
      have := key .leaf .leaf none
      have hl : (PT.node (.leaf : PT α) none .leaf).get m = (PT.leaf : PT α).get m := by
        simp only [get]
        split
        · rfl
        · split <;> rfl
      rw [hl] at this
      exact this
    | node l v r => exact key l r v

theorem get_set (t : PT α) (n m : Nat) (x : Option α) : (t.set n x).get m = if m = n then x else t.get m := get_setF x (n + 1) t n m (by omega)
theorem get_set_same (t : PT α) (n : Nat) (x : Option α) : (t.set n x).get n = x := by simp [get_set]
theorem get_set_ne (t : PT α) {n m : Nat} (x : Option α) (h : m ≠ n) : (t.set n x).get m = t.get m := by simp [get_set, h]
/-- Out of a list of keys and values. -/
def ofList (l : List (Nat × α)) : PT α := l.foldl (fun t p => t.set p.1 (some p.2)) .leaf
theorem get_foldl (l : List (Nat × α)) : ∀ (t : PT α) (n : Nat) (x : α), (l.foldl (fun t p => t.set p.1 (some p.2)) t).get n = some x → t.get n = some x ∨ (n, x) ∈ l := by
  induction l with
  | nil => intro t n x h; exact .inl h
  | cons p l ih =>
    intro t n x h
    rcases ih _ _ _ h with h | h
    · rw [get_set] at h
      split at h
      · rename_i e
        simp only [Option.some.injEq] at h
        right
        rw [e, ← h]
        exact List.mem_cons_self
      · exact .inl h
    · exact .inr (List.mem_cons_of_mem _ h)
theorem get_ofList {l : List (Nat × α)} {n : Nat} {x : α} (h : (ofList l).get n = some x) : (n, x) ∈ l := by
  rcases get_foldl l _ _ _ h with h | h
  · simp [get] at h
  · exact h
end PT

/-! ### Abstract heaps -/
inductive AObj where
  | gone
  | cells (vs : List Value) (e : TypeId) (opn : Option Nat) (ro : Bool)
  | map (kv : List (Value × Value))
  | iter (s : ByteArray) (pos : Nat)

structure AHeap where
  base : Nat → AObj
  upd : PT AObj
  next : Nat

namespace AHeap
def get (h : AHeap) (i : Nat) : AObj := match h.upd.get i with
  | some o => o
  | none => h.base i
def set (h : AHeap) (i : Nat) (o : AObj) : AHeap := { h with upd := h.upd.set i (some o) }
def new (h : AHeap) (o : AObj) : AHeap := { base := h.base, upd := h.upd.set h.next (some o), next := h.next + 1 }
theorem get_set (h : AHeap) (i j : Nat) (o : AObj) : (h.set i o).get j = if j = i then o else h.get j := by
  unfold get set
  simp only [PT.get_set]
  by_cases e : j = i <;> simp [e]
theorem get_set_same (h : AHeap) (i : Nat) (o : AObj) : (h.set i o).get i = o := by simp [get_set]
theorem get_set_ne (h : AHeap) {i j : Nat} (o : AObj) (e : j ≠ i) : (h.set i o).get j = h.get j := by simp [get_set, e]
theorem get_new (h : AHeap) (j : Nat) (o : AObj) : (h.new o).get j = if j = h.next then o else h.get j := by
  unfold get new
  simp only [PT.get_set]
  by_cases e : j = h.next <;> simp [e]
@[simp] theorem next_set (h : AHeap) (i : Nat) (o : AObj) : (h.set i o).next = h.next := rfl
@[simp] theorem next_new (h : AHeap) (o : AObj) : (h.new o).next = h.next + 1 := rfl
def cell? (h : AHeap) (i o : Nat) : Option Value := match h.get i with
  | .cells vs _ _ _ => vs[o]?
  | _ => none
end AHeap

/-! ### Where an abstract object lies in the real heap -/
structure Ref where
  b : Nat
  o : Nat
  ext : Nat
  csz : Nat
  opn : Option Nat

abbrev MP := Nat → Option Ref
def MP.le (m m' : MP) : Prop := ∀ i r, m i = some r → m' i = some r
theorem MP.le_refl (m : MP) : m.le m := fun _ _ h => h
theorem MP.le_trans {a b c : MP} (h : a.le b) (k : b.le c) : a.le c := fun i r e => k i r (h i r e)

/-- Of so many globals the machine knows; slices that have no room at all may lie anywhere. -/
abbrev lim : Nat := 4096

inductive VRel (m : MP) : Value → Value → Prop
  | bool (b : Bool) : VRel m (.bool b) (.bool b)
  | int (k : IntKind) (n : Int) : VRel m (.int k n) (.int k n)
  | string (s : ByteArray) : VRel m (.string s) (.string s)
  | nilPtr : VRel m (.pointer none) (.pointer none)
  | ptr {i x : Nat} {r : Ref} (h : m i = some r) : VRel m (.pointer (some ⟨i, x, none⟩)) (.pointer (some ⟨r.b, r.o + x, none⟩))
  | nilSlice : VRel m (.slice none 0 0) (.slice none 0 0)
  | slice {i x y : Nat} {r : Ref} {l c c' : Nat} (h : m i = some r) (hl : l ≤ c) (hc : c = c' ∨ (c ≤ c' ∧ ∃ s, r.opn = some s ∧ x + c * s = r.ext ∧ r.o + x + c' * s ≤ r.csz)) (hy : y = r.o + x ∨ c' = 0) :
      VRel m (.slice (some ⟨i, x, none⟩) l c) (.slice (some ⟨r.b, y, none⟩) l c')
  | slice0 {x : Nat} (a' : Addr) : VRel m (.slice (some ⟨lim, x, none⟩) 0 0) (.slice (some a') 0 0)
  | nilMap : VRel m (.map none) (.map none)
  | map {i : Nat} {r : Ref} (h : m i = some r) : VRel m (.map (some i)) (.map (some r.b))
  | nilFunc : VRel m .nilFunc .nilFunc
  | func (f : Fn) (a a' c c' : Array Value) (ha : a.size = a'.size) (ra : ∀ (i : Nat) v v', a[i]? = some v → a'[i]? = some v' → VRel m v v')
      (hc : c.size = c'.size) (rc : ∀ (i : Nat) v v', c[i]? = some v → c'[i]? = some v' → VRel m v v') : VRel m (.func f a c) (.func f a' c')
  | nilIface : VRel m .nilIface .nilIface
  | iface (t : TypeId) (v v' : Value) (h : VRel m v v') : VRel m (.iface t v) (.iface t v')
  | agg (a a' : Array Value) (ha : a.size = a'.size) (ra : ∀ (i : Nat) v v', a[i]? = some v → a'[i]? = some v' → VRel m v v') : VRel m (.agg a) (.agg a')
  | tuple (a a' : Array Value) (ha : a.size = a'.size) (ra : ∀ (i : Nat) v v', a[i]? = some v → a'[i]? = some v' → VRel m v v') : VRel m (.tuple a) (.tuple a')

theorem VRel.mono {m m' : MP} (hm : m.le m') {v v' : Value} (h : VRel m v v') : VRel m' v v' := by
  induction h with
  | bool b => exact .bool b
  | int k n => exact .int k n
  | string s => exact .string s
  | nilPtr => exact .nilPtr
  | ptr h => exact .ptr (hm _ _ h)
  | nilSlice => exact .nilSlice
  | slice h hl hc hy => exact .slice (hm _ _ h) hl hc hy
  | slice0 a' => exact .slice0 a'
  | nilMap => exact .nilMap
  | map h => exact .map (hm _ _ h)
  | nilFunc => exact .nilFunc
  | func f a a' c c' ha ra hc rc iha ihc => exact .func f a a' c c' ha iha hc ihc
  | nilIface => exact .nilIface
  | iface t v v' h ih => exact .iface t v v' ih
  | agg a a' ha ra ih => exact .agg a a' ha ih
  | tuple a a' ha ra ih => exact .tuple a a' ha ih

/-- Rows of values. -/
def LRel (m : MP) (l l' : List Value) : Prop := l.length = l'.length ∧ ∀ (i : Nat) v v', l[i]? = some v → l'[i]? = some v' → VRel m v v'
theorem LRel.mono {m m' : MP} (hm : m.le m') {l l' : List Value} (h : LRel m l l') : LRel m' l l' := ⟨h.1, fun i v v' a b => (h.2 i v v' a b).mono hm⟩
theorem LRel.nil (m : MP) : LRel m [] [] := ⟨rfl, fun i v v' a b => by simp at a⟩
theorem LRel.cons {m : MP} {v v' : Value} {l l' : List Value} (h : VRel m v v') (k : LRel m l l') : LRel m (v :: l) (v' :: l') := by
  refine ⟨by simp [k.1], fun i x x' a b => ?_⟩
  cases i with
  | zero => simp at a b; subst a b; exact h
  | succ i => simp at a b; exact k.2 i x x' a b
theorem LRel.get {m : MP} {l l' : List Value} (h : LRel m l l') {i : Nat} {v : Value} (e : l[i]? = some v) : ∃ v', l'[i]? = some v' ∧ VRel m v v' := by
  have hi : i < l'.length := by rw [← h.1]; exact (List.getElem?_eq_some_iff.1 e).1
  exact ⟨l'[i], List.getElem?_eq_getElem hi, h.2 i v _ e (List.getElem?_eq_getElem hi)⟩
theorem LRel.get' {m : MP} {l l' : List Value} (h : LRel m l l') {i : Nat} {v' : Value} (e : l'[i]? = some v') : ∃ v, l[i]? = some v ∧ VRel m v v' := by
  have hi : i < l.length := by rw [h.1]; exact (List.getElem?_eq_some_iff.1 e).1
  exact ⟨l[i], List.getElem?_eq_getElem hi, h.2 i _ v' (List.getElem?_eq_getElem hi) e⟩
theorem LRel.append {m : MP} {l l' k k' : List Value} (h : LRel m l l') (j : LRel m k k') : LRel m (l ++ k) (l' ++ k') := by
  refine ⟨by simp [h.1, j.1], fun i v v' a b => ?_⟩
  by_cases hi : i < l.length
  · rw [List.getElem?_append_left hi] at a
    rw [List.getElem?_append_left (by rw [← h.1]; exact hi)] at b
    exact h.2 i v v' a b
  · rw [List.getElem?_append_right (by omega)] at a
    rw [List.getElem?_append_right (by rw [← h.1]; omega), ← h.1] at b
    exact j.2 _ v v' a b
theorem LRel.drop {m : MP} {l l' : List Value} (h : LRel m l l') (n : Nat) : LRel m (l.drop n) (l'.drop n) := by
  refine ⟨by simp [h.1], fun i v v' a b => ?_⟩
  rw [List.getElem?_drop] at a b
  exact h.2 _ v v' a b
theorem LRel.take {m : MP} {l l' : List Value} (h : LRel m l l') (n : Nat) : LRel m (l.take n) (l'.take n) := by
  refine ⟨by simp [h.1], fun i v v' a b => ?_⟩
  rw [List.getElem?_take] at a b
  split at a
  · rename_i hi; simp [hi] at b; exact h.2 _ v v' a b
  · simp at a

/-- Blocks that are to stay as they are: old ones, which may be told several times; own ones, of which the machine does not know. -/
structure Kept where
  old : Nat → Prop
  own : Nat → Prop
def Kept.has (B : Kept) (i : Nat) : Prop := B.old i ∨ B.own i
instance : CoeFun Kept (fun _ => Nat → Prop) := ⟨Kept.has⟩
abbrev Kept.upto (n : Nat) : Kept := ⟨fun k => k < n, fun _ => False⟩
theorem Kept.upto_iff {n k : Nat} : Kept.upto n k ↔ k < n := ⟨fun h => h.elim id False.elim, .inl⟩
/-- Blocks that are to stay as they are stay so. -/
structure Bel (B : Kept) (w w' : World) : Prop where
  os : w'.os = w.os
  tape : w'.tape = w.tape
  output : w'.output = w.output
  size : w.heap.size ≤ w'.heap.size
  block : ∀ k, B k → w'.heap[k]? = w.heap[k]?
theorem Bel.refl (B : Kept) (w : World) : Bel B w w := ⟨rfl, rfl, rfl, Nat.le_refl _, fun _ _ => rfl⟩
theorem Bel.trans {B : Kept} {a b c : World} (h : Bel B a b) (k : Bel B b c) : Bel B a c :=
  ⟨k.os.trans h.os, k.tape.trans h.tape, k.output.trans h.output, Nat.le_trans h.size k.size, fun i hi => (k.block i hi).trans (h.block i hi)⟩
theorem Bel.mono {B B' : Kept} (hB : ∀ k, B' k → B k) {w w' : World} (h : Bel B w w') : Bel B' w w' := ⟨h.os, h.tape, h.output, h.size, fun k hk => h.block k (hB k hk)⟩
theorem Bel.below {n : Nat} {w w' : World} (h : Bel (Kept.upto n) w w') : Go.RowKit.Below n w w' := ⟨h.os, h.tape, h.output, h.size, fun k hk => h.block k (.inl hk)⟩
theorem Bel.of_below {n : Nat} {B : Kept} (hB : ∀ k, B k → k < n) {w w' : World} (h : Go.RowKit.Below n w w') : Bel B w w' := ⟨h.os, h.tape, h.output, h.size, fun k hk => h.block k (hB k hk)⟩
theorem Bel.alloc {B : Kept} {a b : World} (h : Bel B a b) (hs : ∀ k, B k → k < b.heap.size) (o : Obj) : Bel B a (b.alloc o) :=
  h.trans (Bel.of_below (fun k hk => hs k hk) ((Go.RowKit.Below.refl _ b).alloc (Nat.le_refl _) o))
theorem Bel.drew {B : Kept} {a b : World} (h : Bel B a b) : Bel B a b.drew :=
  ⟨h.os, h.tape, h.output, h.size, h.block⟩
/-- What an object says of its block. -/
def ORel (m : MP) (B : Kept) (w : World) (r : Ref) : AObj → Prop
  | .gone => True
  | .cells vs e opn ro => r.ext = vs.length ∧ r.opn = opn ∧ ∃ (c : Array Value) (fr : Nat × Nat), w.heap[r.b]? = some (.cells c e fr) ∧ c.size = r.csz ∧
      (∀ (k : Nat) v, vs[k]? = some v → ∃ v', c[r.o + k]? = some v' ∧ VRel m v v') ∧
      (ro = false → ¬ B r.b ∧ ∀ k, k < c.size → ¬ (fr.1 ≤ k ∧ k < fr.2))
  | .map kv => ¬ B r.b ∧ ∃ (es : Array MapEntry) (clock : Nat), w.heap[r.b]? = some (.map es clock) ∧ es.size = kv.length ∧
      ∀ (k : Nat) p e, kv[k]? = some p → es[k]? = some e → VRel m p.1 e.key ∧ VRel m p.2 e.val
  | .iter s pos => ¬ B r.b ∧ r.o = 0 ∧ w.heap[r.b]? = some (.stringIter s pos)


structure HRel (B : Kept) (m : MP) (h : AHeap) (w : World) : Prop where
  obj : ∀ i r, m i = some r → ORel m B w r (h.get i)
  one : ∀ i j r s, m i = some r → m j = some s → r.b = s.b → ¬ B r.b → h.get i ≠ .gone → h.get j ≠ .gone → i = j
  dom : ∀ i r, m i = some r → i < h.next ∧ r.b < w.heap.size
  size : ∀ k, B k → k < w.heap.size
  old : ∀ i, B.old i → i < lim → ∃ r, m i = some r ∧ r.b = i ∧ r.o = 0
  zed : m lim = none ∧ lim < h.next
  own : ∀ i r, m i = some r → ¬ B.own r.b

end Go.Amb
