/- Part of the proof by the abstract machine: no claim of its own. -/
import Derived.Test.YtnfncnchbogncaaDoorA4
set_option linter.unusedSimpArgs false
set_option linter.unusedVariables false
set_option linter.unnecessarySimpa false
set_option linter.unusedSectionVars false
/- The abstract machine, part 5: what is told of values and of reads. -/
set_option linter.unusedVariables false
namespace Go.Amb
open Go.RowKit

theorem ikEq_refl (k : IntKind) : ikEq k k = true := by cases k <;> rfl
theorem asNil_eq {R : Type} {l : List Value} {x : Option R} {r : R} (h : asNil l x = some r) : l = [] ∧ x = some r := by
  cases l with
  | nil => exact ⟨rfl, h⟩
  | cons a b => simp [asNil] at h
theorem int?_eq {k : IntKind} {v : Value} {n : Int} (h : int? k v = some n) : v = .int k n := by
  unfold int? at h
  split at h
  · split at h
    · rename_i e
      have := ikEq_eq e
      subst this
      simp only [Option.some.injEq] at h
      subst h
      rfl
    · cases h
  · cases h
theorem bool?_eq {v : Value} {b : Bool} (h : bool? v = some b) : v = .bool b := by unfold bool? at h; split at h <;> simp_all
theorem str?_eq {v : Value} {b : ByteArray} (h : str? v = some b) : v = .string b := by unfold str? at h; split at h <;> simp_all
theorem ptr?_eq {v : Value} {b : Option Addr} (h : ptr? v = some b) : v = .pointer b := by unfold ptr? at h; split at h <;> simp_all
theorem slc?_eq {v : Value} {s : SL} (h : slc? v = some s) : v = .slice s.a s.len s.cap := by
  unfold slc? at h
  split at h
  · simp only [Option.some.injEq] at h; subst h; rfl
  · cases h
theorem map?_eq {v : Value} {b : Option Nat} (h : map? v = some b) : v = .map b := by unfold map? at h; split at h <;> simp_all
theorem agg?_eq {v : Value} {l : List Value} (h : agg? v = some l) : v = .agg l.toArray := by
  unfold agg? at h
  split at h
  · simp only [Option.some.injEq] at h; subst h; simp
  · cases h
theorem tup?_eq {v : Value} {l : List Value} (h : tup? v = some l) : v = .tuple l.toArray := by
  unfold tup? at h
  split at h
  · simp only [Option.some.injEq] at h; subst h; simp
  · cases h
theorem num?_eq {v : Value} {p : IntKind × Int} (h : num? v = some p) : v = .int p.1 p.2 := by
  unfold num? at h
  split at h
  · simp only [Option.some.injEq] at h; subst h; rfl
  · cases h

theorem asLK_eq {R : Type} {k : LK} {v : Value} {f : Value → Option R} {r : R} (h : asLK k v f = some r) : f v = some r := by
  cases k with
  | int k => obtain ⟨n, e, g⟩ := ob_eq h; rw [int?_eq e]; exact g
  | bool => obtain ⟨n, e, g⟩ := ob_eq h; rw [bool?_eq e]; exact g
  | str => obtain ⟨n, e, g⟩ := ob_eq h; rw [str?_eq e]; exact g
  | ptr => obtain ⟨n, e, g⟩ := ob_eq h; rw [ptr?_eq e]; exact g
  | slc => obtain ⟨n, e, g⟩ := ob_eq h; rw [slc?_eq e]; exact g
  | map => obtain ⟨n, e, g⟩ := ob_eq h; rw [map?_eq e]; exact g
  | any => exact h
theorem asLKs_eq {R : Type} : ∀ {ks : List LK} {l : List Value} {f : List Value → Option R} {r : R}, asLKs ks l f = some r → f l = some r := by
  intro ks
  induction ks with
  | nil =>
    intro l f r h
    obtain ⟨rfl, h⟩ := asNil_eq h
    exact h
  | cons k ks ih =>
    intro l f r h
    obtain ⟨v, e, g⟩ := ob_eq h
    have g2 := ih (asLK_eq g)
    cases l with
    | nil => simp at e
    | cons a b => simp at e; subst e; exact g2
theorem asTI_eq {R : Type} {i : TI} {v : Value} {f : Value → Option R} {r : R} (h : asTI i v f = some r) : f v = some r := by
  unfold asTI at h
  split at h
  · obtain ⟨l, e, g⟩ := ob_eq h
    rw [agg?_eq e]
    exact asLKs_eq g
  · split at h
    · exact asLK_eq h
    · cases h
theorem asRes_eq {E : Env} : ∀ {ts : List TypeId} {l : List Value} {f : List Value → Option Ans} {r : Ans}, asRes E ts l f = some r → f l = some r := by
  intro ks
  induction ks with
  | nil =>
    intro l f r h
    obtain ⟨rfl, h⟩ := asNil_eq h
    exact h
  | cons k ks ih =>
    intro l f r h
    obtain ⟨i, ei, h⟩ := ob_eq h
    obtain ⟨v, e, g⟩ := ob_eq h
    have g2 := ih (asTI_eq g)
    cases l with
    | nil => simp at e
    | cons a b => simp at e; subst e; exact g2
theorem asRet_eq {E : Env} {ts : List TypeId} {v : Value} {f : Value → Option Ans} {r : Ans} (h : asRet E ts v f = some r) : f v = some r := by
  unfold asRet at h
  split at h
  · obtain ⟨l, e, g⟩ := ob_eq h
    obtain ⟨rfl, g⟩ := asNil_eq g
    rw [tup?_eq e]
    exact g
  · obtain ⟨l, e, g⟩ := ob_eq h
    exact asTI_eq g
  · obtain ⟨l, e, g⟩ := ob_eq h
    rw [tup?_eq e]
    exact asRes_eq g

theorem ldL_eq {R : Type} {h : AHeap} {i : Nat} : ∀ {ks : List LK} {o : Nat} {f : List Value → Option R} {r : R}, h.ldL i ks o f = some r →
    ∃ vs : List Value, vs.length = ks.length ∧ (∀ k v, vs[k]? = some v → h.cell? i (o + k) = some v) ∧ f vs = some r := by
  intro ks
  induction ks with
  | nil => intro o f r e; exact ⟨[], rfl, by simp, e⟩
  | cons k ks ih =>
    intro o f r e
    obtain ⟨v, ev, g⟩ := ob_eq (show ob (h.cell? i o) _ = some r from e)
    obtain ⟨vs, hl, hc, hf⟩ := ih (asLK_eq g)
    refine ⟨v :: vs, by simp [hl], fun q u hq => ?_, hf⟩
    cases q with
    | zero => simp at hq; subst hq; exact ev
    | succ q => simp at hq; have := hc q u hq; rw [show o + (q + 1) = o + 1 + q by omega]; exact this
theorem ld_eq {R : Type} {h : AHeap} {t : TI} {i o : Nat} {f : Value → Option R} {r : R} (e : h.ld t i o f = some r) :
    (t.agg = true ∧ ∃ vs : List Value, vs.length = t.lk.length ∧ (∀ k v, vs[k]? = some v → h.cell? i (o + k) = some v) ∧ f (.agg vs.toArray) = some r) ∨
    (t.agg = false ∧ t.lk.length = 1 ∧ ∃ v, h.cell? i o = some v ∧ f v = some r) := by
  unfold AHeap.ld at e
  split at e
  · rename_i ha
    exact .inl ⟨ha, ldL_eq e⟩
  · rename_i ha
    split at e
    · rename_i k hk
      obtain ⟨v, ev, g⟩ := ob_eq (show ob (h.cell? i o) _ = some r from e)
      exact .inr ⟨ha, by simp [hk], v, ev, asLK_eq g⟩
    · cases e

/-! ### Reading, side by side -/
theorem HRel.cell {B : Kept} {m : MP} {h : AHeap} {w : World} (H : HRel B m h w) {i o : Nat} {r : Ref} {v : Value} (hi : m i = some r) (hc : h.cell? i o = some v) :
    ∃ v', w.cell? ⟨r.b, r.o + o, none⟩ = some v' ∧ VRel m v v' := by
  have ho := H.obj i r hi
  unfold AHeap.cell? at hc
  split at hc
  · rename_i vs e opn ro hg
    rw [hg] at ho
    obtain ⟨_, _, c, fr, hw, _, hk, _⟩ := ho
    obtain ⟨v', a, b⟩ := hk o v hc
    exact ⟨v', by rw [cell?_of_heap hw]; exact a, b⟩
  · cases hc
theorem exists_row {m : MP} {f : Nat → Option Value} : ∀ (vs : List Value) (o : Nat), (∀ k v, vs[k]? = some v → ∃ v', f (o + k) = some v' ∧ VRel m v v') →
    ∃ vs' : List Value, LRel m vs vs' ∧ ∀ k v', vs'[k]? = some v' → f (o + k) = some v' := by
  intro vs
  induction vs with
  | nil => intro o h; exact ⟨[], LRel.nil m, by simp⟩
  | cons v r ih =>
    intro o h
    obtain ⟨v', a, b⟩ := h 0 v rfl
    obtain ⟨r', hl, hr⟩ := ih (o + 1) (fun k u hk => by
      have := h (k + 1) u (by simpa using hk)
      rwa [show o + (k + 1) = o + 1 + k by omega] at this)
    refine ⟨v' :: r', LRel.cons b hl, fun k u hk => ?_⟩
    cases k with
    | zero => simp at hk; subst hk; exact a
    | succ k => simp at hk; rw [show o + (k + 1) = o + 1 + k by omega]; exact hr k u hk
theorem HRel.cells {B : Kept} {m : MP} {h : AHeap} {w : World} (H : HRel B m h w) {i o : Nat} {r : Ref} {vs : List Value} (hi : m i = some r)
    (hc : ∀ k v, vs[k]? = some v → h.cell? i (o + k) = some v) : ∃ vs' : List Value, LRel m vs vs' ∧ ∀ k v', vs'[k]? = some v' → w.cell? ((⟨r.b, r.o + o, none⟩ : Addr).add k) = some v' := by
  obtain ⟨vs', h1, h2⟩ := exists_row (m := m) (f := fun q => w.cell? ⟨r.b, r.o + q, none⟩) vs o (fun k v hk => H.cell hi (hc k v hk))
  refine ⟨vs', h1, fun k v' hk => ?_⟩
  rw [add_none, show r.o + o + k = r.o + (o + k) by omega]
  exact h2 k v' hk
theorem row?_eq {h : AHeap} {i o n : Nat} {l : List Value} (e : h.row? i o n = some l) : l.length = n ∧ ∀ k v, l[k]? = some v → h.cell? i (o + k) = some v := by
  unfold AHeap.row? at e
  split at e
  · rename_i vs t opn ro hg
    split at e
    · rename_i hb
      have hb' : o + n ≤ vs.length := Nat.le_of_ble_eq_true hb
      simp only [Option.some.injEq] at e
      subst e
      refine ⟨by simp; omega, fun k v hk => ?_⟩
      rw [List.getElem?_take] at hk
      split at hk
      · rw [List.getElem?_drop] at hk
        simp [AHeap.cell?, hg, hk]
      · cases hk
    · cases e
  · cases e

/-! ### What is told of a value by its relation -/
theorem VRel.bool_inv {m : MP} {b : Bool} {v' : Value} (h : VRel m (.bool b) v') : v' = .bool b := by cases h; rfl
theorem VRel.int_inv {m : MP} {k : IntKind} {n : Int} {v' : Value} (h : VRel m (.int k n) v') : v' = .int k n := by cases h; rfl
theorem VRel.string_inv {m : MP} {s : ByteArray} {v' : Value} (h : VRel m (.string s) v') : v' = .string s := by cases h; rfl
theorem VRel.ptr_inv {m : MP} {a : Addr} {v' : Value} (h : VRel m (.pointer (some a)) v') : a.spot = none ∧ ∃ r, m a.block = some r ∧ v' = .pointer (some ⟨r.b, r.o + a.off, none⟩) := by
  cases h with
  | ptr h => exact ⟨rfl, _, h, rfl⟩
theorem VRel.nilPtr_inv {m : MP} {v' : Value} (h : VRel m (.pointer none) v') : v' = .pointer none := by cases h; rfl
theorem VRel.slice_inv {m : MP} {a : Addr} {l c : Nat} {v' : Value} (h : VRel m (.slice (some a) l c) v') :
    (a.spot = none ∧ l ≤ c ∧ ∃ r y c', m a.block = some r ∧ v' = .slice (some ⟨r.b, y, none⟩) l c' ∧ (c = c' ∨ (c ≤ c' ∧ ∃ s, r.opn = some s ∧ a.off + c * s = r.ext ∧ r.o + a.off + c' * s ≤ r.csz)) ∧ (y = r.o + a.off ∨ c' = 0)) ∨ ((a.spot = none ∧ a.block = lim) ∧ l = 0 ∧ c = 0 ∧ ∃ a', v' = .slice (some a') 0 0) := by
  cases h with
  | slice h hl hc hy => exact .inl ⟨rfl, hl, _, _, _, h, rfl, hc, hy⟩
  | slice0 a' => exact .inr ⟨⟨rfl, rfl⟩, rfl, rfl, a', rfl⟩
theorem VRel.nilSlice_inv {m : MP} {l c : Nat} {v' : Value} (h : VRel m (.slice none l c) v') : l = 0 ∧ c = 0 ∧ v' = .slice none 0 0 := by cases h; exact ⟨rfl, rfl, rfl⟩
theorem VRel.map_inv {m : MP} {i : Nat} {v' : Value} (h : VRel m (.map (some i)) v') : ∃ r, m i = some r ∧ v' = .map (some r.b) := by
  cases h with
  | map h => exact ⟨_, h, rfl⟩
theorem VRel.agg_inv {m : MP} {a : Array Value} {v' : Value} (h : VRel m (.agg a) v') : ∃ a', v' = .agg a' ∧ LRel m a.toList a'.toList := by
  cases h with
  | agg _ a' ha ra => exact ⟨a', rfl, by simpa using ha, fun i v v' x y => ra i v v' (by simpa using x) (by simpa using y)⟩
theorem VRel.tuple_inv {m : MP} {a : Array Value} {v' : Value} (h : VRel m (.tuple a) v') : ∃ a', v' = .tuple a' ∧ LRel m a.toList a'.toList := by
  cases h with
  | tuple _ a' ha ra => exact ⟨a', rfl, by simpa using ha, fun i v v' x y => ra i v v' (by simpa using x) (by simpa using y)⟩
theorem LRel.agg {m : MP} {l l' : List Value} (h : LRel m l l') : VRel m (.agg l.toArray) (.agg l'.toArray) :=
  .agg _ _ (by simpa using h.1) fun i v v' x y => h.2 i v v' (by simpa using x) (by simpa using y)
theorem LRel.tuple {m : MP} {l l' : List Value} (h : LRel m l l') : VRel m (.tuple l.toArray) (.tuple l'.toArray) :=
  .tuple _ _ (by simpa using h.1) fun i v v' x y => h.2 i v v' (by simpa using x) (by simpa using y)
theorem VRel.cells {m : MP} {v v' : Value} (h : VRel m v v') : LRel m v.cells.toList v'.cells.toList := by
  cases h with
  | agg a a' ha ra => exact ⟨by simpa [Value.cells] using ha, fun i x x' p q => ra i x x' (by simpa [Value.cells] using p) (by simpa [Value.cells] using q)⟩
  | bool b => exact LRel.cons (.bool b) (LRel.nil m)
  | int k n => exact LRel.cons (.int k n) (LRel.nil m)
  | string s => exact LRel.cons (.string s) (LRel.nil m)
  | nilPtr => exact LRel.cons .nilPtr (LRel.nil m)
  | ptr h => exact LRel.cons (.ptr h) (LRel.nil m)
  | nilSlice => exact LRel.cons .nilSlice (LRel.nil m)
  | slice h hl hc hy => exact LRel.cons (.slice h hl hc hy) (LRel.nil m)
  | slice0 a' => exact LRel.cons (.slice0 a') (LRel.nil m)
  | nilMap => exact LRel.cons .nilMap (LRel.nil m)
  | map h => exact LRel.cons (.map h) (LRel.nil m)
  | nilFunc => exact LRel.cons .nilFunc (LRel.nil m)
  | func f a a' c c' ha ra hc rc => exact LRel.cons (.func f a a' c c' ha ra hc rc) (LRel.nil m)
  | nilIface => exact LRel.cons .nilIface (LRel.nil m)
  | iface t v v' h => exact LRel.cons (.iface t v v' h) (LRel.nil m)
  | tuple a a' ha ra => exact LRel.cons (.tuple a a' ha ra) (LRel.nil m)

theorem VRel.cOk1 {m : MP} {v : Value} (h : cOk1 v = true) : VRel m v v := by
  unfold Amb.cOk1 at h
  split at h <;> first
    | exact .bool _
    | exact .int _ _
    | exact .string _
    | exact .nilPtr
    | exact .nilMap
    | exact .nilFunc
    | exact .nilIface
    | (simp at h
       obtain ⟨rfl, rfl⟩ := h
       exact .nilSlice)
    | cases h
theorem VRel.cOk {m : MP} {v : Value} (h : cOk v = true) : VRel m v v := by
  unfold Amb.cOk at h
  split at h
  · refine .agg _ _ rfl fun i v v' x y => ?_
    rw [x] at y
    simp only [Option.some.injEq] at y
    subst y
    exact VRel.cOk1 (List.all_eq_true.1 h v (by simpa using Array.mem_of_getElem? x))
  · refine .tuple _ _ rfl fun i v v' x y => ?_
    rw [x] at y
    simp only [Option.some.injEq] at y
    subst y
    exact VRel.cOk1 (List.all_eq_true.1 h v (by simpa using Array.mem_of_getElem? x))
  · exact VRel.cOk1 h
theorem VRel.undef {m : MP} : VRel m undef undef := .tuple _ _ rfl fun i v v' x y => by simp at x

/-! ### Slots -/
structure TRel (nt : Nat) (m : MP) (tm : PT Value) (a : Act) : Prop where
  sz : nt ≤ a.tmps.size
  slot : ∀ t, t < nt → VRel m (opnd tm (.tmp t)) (a.tmps.getD t Go.undef)
theorem TRel.mono {nt : Nat} {m m' : MP} {tm : PT Value} {a : Act} (hm : m.le m') (h : TRel nt m tm a) : TRel nt m' tm a := ⟨h.sz, fun t ht => (h.slot t ht).mono hm⟩
theorem opnd_put (tm : PT Value) (d : Option Tmp) (v : Value) (t : Nat) : opnd (Amb.put tm d v) (.tmp t) = if d = some t then v else opnd tm (.tmp t) := by
  cases d with
  | none => simp [Amb.put]
  | some d =>
    simp only [Amb.put, opnd, PT.get_set, Option.some.injEq]
    by_cases h : t = d
    · subst h; simp
    · rw [if_neg h, if_neg (fun e => h e.symm)]
theorem TRel.put {nt : Nat} {m : MP} {tm : PT Value} {a : Act} (h : TRel nt m tm a) (d : Option Tmp) {v v' : Value} (hv : VRel m v v') : TRel nt m (Amb.put tm d v) (a.put d v') := by
  cases d with
  | none => exact h
  | some d =>
    refine ⟨by simp [Act.put]; exact h.sz, fun t ht => ?_⟩
    rw [opnd_put]
    have hz := h.sz
    by_cases e : d = t
    · subst e
      rw [if_pos rfl]
      have : (a.put (some d) v').tmps.getD d Go.undef = v' := by
        simp only [Act.put, Array.getD_eq_getD_getElem?, Array.getElem?_setIfInBounds_self]
        rw [if_pos (by omega)]
        rfl
      rw [this]
      exact hv
    · rw [if_neg (by simpa using e)]
      have : (a.put (some d) v').tmps.getD t Go.undef = a.tmps.getD t Go.undef := by
        simp only [Act.put, Array.getD_eq_getD_getElem?, Array.getElem?_setIfInBounds_ne e]
      rw [this]
      exact h.slot t ht
theorem TRel.opnd {nt G : Nat} {B : Kept} {m : MP} {tm : PT Value} {a : Act} {h : AHeap} {w : World} (T : TRel nt m tm a) (H : HRel B m h w) (hG : ∀ i, i < G → B.old i) {x : Operand} (hx : xOk nt G x = true) :
    VRel m (Amb.opnd tm x) (a.eval x) := by
  cases x with
  | tmp t => exact T.slot t (Nat.blt_eq.mp hx)
  | const v => exact VRel.cOk hx
  | global g =>
    have hx' : (Nat.blt g G && Nat.blt g lim) = true := hx
    rw [Bool.and_eq_true] at hx'
    have hg : g < G := Nat.blt_eq.mp hx'.1
    obtain ⟨r, h1, h2, h3⟩ := H.old g (hG g hg) (Nat.blt_eq.mp hx'.2)
    have := VRel.ptr (m := m) (x := 0) h1
    rw [h2, h3] at this
    exact this
  | func f => exact .func _ _ _ _ _ rfl (fun i v v' x => by simp at x) rfl (fun i v v' x => by simp at x)

end Go.Amb
