/- Part of the proof by the abstract machine: no claim of its own. -/
import Derived.Test.YtnfncnchbogncaaDoorA6
import Derived.Laws.StructEq
import Derived.Laws.Pointers
import Derived.Laws.Strings
set_option linter.unusedSimpArgs false
set_option linter.unusedVariables false
set_option linter.unnecessarySimpa false
set_option linter.unusedSectionVars false
/- The abstract machine, part 7: operations that only reckon. -/
set_option linter.unusedVariables false
namespace Go.Amb
open Go.RowKit

section
variable {P : Program} {E : Env} {G nt : Nat} {B : Kept}
variable {m : MP} {h : AHeap} {w : World} {tm : PT Value} {a : Act} {call : Call} {k kp : KV} {r : Ans}

theorem toList_data (s : ByteArray) : s.toList = s.data.toList := ByteArray.toList_eq s
theorem strEq_toList (x y : ByteArray) : (x.toList == y.toList) = strEq x y := by
  rw [toList_data, toList_data]
  unfold strEq
  rw [u8sEq_eq]

theorem intOp_run {op : BinOp} {kd : IntKind} {x y : Int} {v : Value} (e : intOp op kd x y = some v) (hs : op ≠ .shl) (hs' : op ≠ .shr) (t : TypeId) (P : Program) (w : World) :
    (binOp op t (.int kd x) (.int kd y)).run P w = .ok v w := by
  cases op <;> simp only [intOp] at e <;> first
    | (simp only [Option.some.injEq] at e; subst e; simp [binOp, Op.intArith, Op.intCmp, Op.intBits]; done)
    | (split at e
       · cases e
       · rename_i hy
         simp only [Option.some.injEq] at e
         subst e
         have : ¬ y = 0 := by simpa using hy
         simp [binOp, Op.intDiv, this])
    | exact absurd rfl hs
    | exact absurd rfl hs'
    | cases e
theorem shOp_run {op : BinOp} {kd kd' : IntKind} {x y : Int} {v : Value} (e : shOp op kd x y = some v) (hs : op = .shl ∨ op = .shr) (t : TypeId) (P : Program) (w : World) :
    (binOp op t (.int kd x) (.int kd' y)).run P w = .ok v w := by
  unfold shOp at e
  split at e
  · cases e
  · rename_i hy
    have : ¬ y < 0 := by simpa using hy
    rcases hs with rfl | rfl <;> simp only [Option.some.injEq] at e <;> subst e <;> simp [binOp, Op.shift, this]
theorem strOp_run {op : BinOp} {x y : ByteArray} {v : Value} (e : strOp op x y = some v) (t : TypeId) (P : Program) (w : World) :
    (binOp op t (.string x) (.string y)).run P w = .ok v w := by
  cases op <;> simp only [strOp] at e <;> first
    | (simp only [Option.some.injEq] at e; subst e; simp [binOp, Op.stringOp, strEq, u8sEq_eq, toList_data]; done)
    | (split at e
       · rename_i hy
         simp only [Option.some.injEq] at e
         subst e
         have hle := Nat.le_of_ble_eq_true hy
         have : ¬ (((x.size + y.size : Nat) : Int) > IntKind.i64.max) := by
           simp only [AHeap.most] at hle
           simp [IntKind.max, IntKind.bits, IntKind.signed]
           omega
         simp only [binOp, Op.stringOp]
         rw [if_neg this]
         rfl
       · cases e)
    | cases e

theorem unV_run {op : UnOp} {x v : Value} (e : unV op x = some v) (P : Program) (w : World) : (Op.unary op x).run P w = .ok v w ∧ (∀ m, VRel m x x) ∧ ∀ m, VRel m v v := by
  unfold unV at e
  split at e
  · simp only [Option.some.injEq] at e; subst e; exact ⟨by simp [Op.unary], fun m => .bool _, fun m => .bool _⟩
  · simp only [Option.some.injEq] at e; subst e; exact ⟨by simp [Op.unary, Op.intArith], fun m => .int _ _, fun m => .int _ _⟩
  · cases e

theorem op_unOp (hG : ∀ i, i < G → B.old i) (H : HRel B m h w) (T : TRel nt m tm a) {op : UnOp} {t : TypeId} {x : Operand} {o : Oper} (ho : o.op = .unOp op t x) (hx : xOk nt G x = true)
    (e : evOp E call o.op tm h k kp = some r) : OpRes P B m h w (execOp a.eval o) k r := by
  rw [ho] at e
  obtain ⟨v, ev, e⟩ := ob_eq e
  have hv := T.opnd H hG hx
  obtain ⟨h1, h2, h3⟩ := unV_run ev P w
  have : a.eval x = opnd tm x := by
    unfold unV at ev
    split at ev
    · rename_i hh; rw [hh] at hv ⊢; exact hv.bool_inv
    · rename_i hh; rw [hh] at hv ⊢; exact hv.int_inv
    · cases ev
  simp only [execOp, ho]
  rw [this]
  exact OpRes.mk e (Gr.refl h m) H (h3 m) (Bel.refl B w) h1

/-! #### '==' -/
theorem eqGuard_val (op : BinOp) (t : TypeId) (x y : Operand) (u v : Value) (P : Program) (w : World)
    (hu : ∀ c c', ¬ (u = .agg c ∧ v = .agg c')) (hn : ¬ (u = .nilIface ∧ v = .nilIface)) : (eqGuard op t x y u v).run P w = .ok () w := by
  cases op <;> first
    | rfl
    | (cases u <;> cases v <;> first
      | rfl
      | exact absurd ⟨rfl, rfl⟩ hn
      | exact absurd ⟨rfl, rfl⟩ (hu _ _))

theorem samePtr {i j x y : Nat} {ri rj : Ref} (H : HRel B m h w) (hi : m i = some ri) (hj : m j = some rj) (e : (Nat.beq i j && Nat.beq x y) = true) :
    (⟨ri.b, ri.o + x, none⟩ : Addr) = ⟨rj.b, rj.o + y, none⟩ := by
  rw [Bool.and_eq_true] at e
  have h1 := Nat.eq_of_beq_eq_true e.1
  have h2 := Nat.eq_of_beq_eq_true e.2
  subst h1 h2
  rw [hi] at hj
  simp only [Option.some.injEq] at hj
  rw [hj]

theorem ptrEq_run (hE : E.Ok P G) (H : HRel B m h w) {t e : TypeId} {i j : TI} (hi : i.Ok P t) (hd : i.d = .pointer e) (hj : j.Ok P e) (hs : j.lk ≠ []) {p q : Option Addr} {p' q' : Value} {b : Bool}
    (eq : ptrEq p q = some b) (hp : VRel m (.pointer p) p') (hq : VRel m (.pointer q) q') (d : Nat) : (Op.equalIn (d + 1) t p' q').run P w = .ok b w := by
  have hu := run_under hi w
  rw [hd] at hu
  cases q with
  | none =>
    have h2 := hq.nilPtr_inv
    subst h2
    cases p with
    | none =>
      have h1 := hp.nilPtr_inv
      subst h1
      simp only [ptrEq, Option.some.injEq] at eq
      subst eq
      simp [Op.equalIn, hu]
    | some x =>
      obtain ⟨_, rx, _, h1⟩ := hp.ptr_inv
      subst h1
      simp only [ptrEq, Option.some.injEq] at eq
      subst eq
      simp [Op.equalIn, hu]
  | some y =>
    obtain ⟨_, ry, hy, h2⟩ := hq.ptr_inv
    subst h2
    cases p with
    | none =>
      have h1 := hp.nilPtr_inv
      subst h1
      simp only [ptrEq, Option.some.injEq] at eq
      subst eq
      simp [Op.equalIn, hu]
    | some x =>
      obtain ⟨_, rx, hx, h1⟩ := hp.ptr_inv
      subst h1
      simp only [ptrEq] at eq
      split at eq
      · rename_i hc
        simp only [Option.some.injEq] at eq
        subst eq
        have := samePtr H hx hy hc
        rw [this]
        have hz : ¬ j.lk.length = 0 := by intro e0; exact hs (List.eq_nil_of_length_eq_zero e0)
        simp [Op.equalIn, hu, run_sizeOf hj, sameAddr]
      · cases eq

theorem flat_inv {v v' : Value} (hv : VRel m v v') (hf : (∃ b, v = .bool b) ∨ (∃ kd n, v = .int kd n) ∨ (∃ s, v = .string s)) : v' = v := by
  rcases hf with ⟨b, rfl⟩ | ⟨kd, n, rfl⟩ | ⟨s, rfl⟩
  · exact hv.bool_inv
  · exact hv.int_inv
  · exact hv.string_inv

theorem eq1_run {t : TypeId} {i : TI} (hi : i.Ok P t) {x y : Value} {b : Bool} (e : eq1 i.d x y = some b) (d : Nat) :
    (Op.equalIn (d + 1) t x y).run P w = .ok b w ∧ ((∃ b, x = .bool b) ∨ (∃ kd n, x = .int kd n) ∨ (∃ s, x = .string s)) ∧ ((∃ b, y = .bool b) ∨ (∃ kd n, y = .int kd n) ∨ (∃ s, y = .string s)) ∧ i.agg = false := by
  have hu := run_under hi w
  unfold eq1 at e
  split at e
  · split at e
    · rename_i hd hk
      have := ikEq_eq hk
      subst this
      simp only [Option.some.injEq] at e
      subst e
      rw [hd] at hu
      exact ⟨by simp [Op.equalIn, hu], .inr (.inl ⟨_, _, rfl⟩), .inr (.inl ⟨_, _, rfl⟩), by rw [hi.agg, hd]⟩
    · cases e
  · split at e
    · rename_i hd
      simp only [Option.some.injEq] at e
      subst e
      rw [hd] at hu
      refine ⟨?_, .inr (.inr ⟨_, rfl⟩), .inr (.inr ⟨_, rfl⟩), by rw [hi.agg, hd]⟩
      rename_i sa sb _
      have : (sa == sb) = strEq sa sb := (beq_toListBytes sa sb).trans (strEq_toList sa sb)
      simp [Op.equalIn, hu, this]
    · cases e
  · split at e
    · rename_i hd
      simp only [Option.some.injEq] at e
      subst e
      rw [hd] at hu
      exact ⟨by simp [Op.equalIn, hu], .inl ⟨_, rfl⟩, .inl ⟨_, rfl⟩, by rw [hi.agg, hd]⟩
    · cases e
  · cases e

theorem run_part {t : TypeId} {i : TI} (hi : i.Ok P t) (ha : i.agg = false) {cs : Array Value} {o : Nat} {v : Value} (hv : cs[o]? = some v) : (part t cs o).run P w = .ok v w := by
  simp [part, run_isAgg hi, ha, hv]
theorem eqFields_run (hE : E.Ok P G) (d : Nat) : ∀ (fs : List Field) {xs ys : List Value} {xs' ys' : Array Value} {b : Bool}, eqFields E xs ys fs = some b → LRel m xs xs'.toList → LRel m ys ys'.toList →
    (Op.eqFields (d + 1) xs' ys' fs).run P w = .ok b w := by
  intro fs
  induction fs with
  | nil => intro xs ys xs' ys' b e _ _; simp only [eqFields, Option.some.injEq] at e; subst e; rfl
  | cons f fs ih =>
    intro xs ys xs' ys' b e hx hy
    simp only [eqFields] at e
    split at e
    · cases e
    · rename_i hn
      obtain ⟨i, ei, e⟩ := ob_eq e
      obtain ⟨x, ex, e⟩ := ob_eq e
      obtain ⟨y, ey, e⟩ := ob_eq e
      obtain ⟨b1, e1, e⟩ := ob_eq e
      obtain ⟨b2, e2, e⟩ := ob_eq e
      simp only [Option.some.injEq] at e
      have hi := hE.ti _ _ ei
      obtain ⟨hr, fx, fy, ha⟩ := eq1_run (w := w) hi e1 d
      obtain ⟨x', ax, bx⟩ := hx.get ex
      obtain ⟨y', ay, by_⟩ := hy.get ey
      have := flat_inv bx fx
      subst this
      have := flat_inv by_ fy
      subst this
      have hne : f.name ≠ "_" := by simpa using hn
      simp only [Op.eqFields, if_pos hne, Sem.run_bind, run_part hi ha (show xs'[f.offset]? = some x' by simpa using ax), run_part hi ha (show ys'[f.offset]? = some y' by simpa using ay), Result.andThen_ok, hr]
      cases b1 with
      | true =>
        have := ih e2 hx hy
        simp [this, ← e]
      | false => simp [← e]

theorem VRel.ptr_form {p : Option Addr} {v' : Value} (h : VRel m (.pointer p) v') : ∃ p', v' = .pointer p' := by
  cases h with
  | nilPtr => exact ⟨_, rfl⟩
  | ptr h => exact ⟨_, rfl⟩

set_option maxHeartbeats 2000000 in
theorem eqOp_run (hE : E.Ok P G) (H : HRel B m h w) {t : TypeId} {x y x' y' : Value} {b : Bool} (e : eqOp E t x y = some b) (hx : VRel m x x') (hy : VRel m y y') :
    (Op.equal t x' y').run P w = .ok b w ∧ (∀ op p q, (eqGuard op t p q x' y').run P w = .ok () w) ∧ (∀ kd n, x' ≠ .int kd n) ∧ (∀ s, x' ≠ .string s) := by
  obtain ⟨i, ei, e1⟩ := ob_eq e
  clear e
  have e := e1
  clear e1
  have hi := hE.ti _ _ ei
  have hu := run_under hi w
  show (Op.equalIn (9998 + 1 + 1) t x' y').run P w = .ok b w ∧ _
  generalize 9998 = d
  split at e
  · rename_i b1 b2 hd
    simp only [Option.some.injEq] at e
    have h1 := hx.bool_inv
    have h2 := hy.bool_inv
    subst h1 h2 e
    rw [hd] at hu
    exact ⟨by simp [Op.equalIn, hu], fun op p q => eqGuard_val _ _ _ _ _ _ _ _ (by simp) (by simp), by simp, by simp⟩
  · rename_i el p q hd
    obtain ⟨j, ej, e⟩ := ob_eq e
    split at e
    · cases e
    · rename_i hk
      have h0 := ptrEq_run hE H hi hd (hE.ti _ _ ej) (by rw [hk]; simp) e hx hy (d + 1)
      obtain ⟨p', rfl⟩ := hx.ptr_form
      obtain ⟨q', rfl⟩ := hy.ptr_form
      exact ⟨h0, fun op p q => eqGuard_val _ _ _ _ _ _ _ _ (by simp) (by simp), by simp, by simp⟩
  · rename_i el p _ _ q _ _ hd
    rw [hd] at hu
    unfold nilEq at e
    split at e
    · obtain ⟨_, _, h2⟩ := hy.nilSlice_inv
      subst h2
      simp only [Option.some.injEq] at e
      cases p with
      | none =>
        obtain ⟨_, _, h1⟩ := hx.nilSlice_inv
        subst h1 e
        exact ⟨by simp [Op.equalIn, hu], fun op p q => eqGuard_val _ _ _ _ _ _ _ _ (by simp) (by simp), by simp, by simp⟩
      | some p =>
        rcases hx.slice_inv with ⟨_, _, _, _, _, _, h1, _⟩ | ⟨_, _, _, _, h1⟩ <;> subst h1 e <;>
        exact ⟨by simp [Op.equalIn, hu], fun op p q => eqGuard_val _ _ _ _ _ _ _ _ (by simp) (by simp), by simp, by simp⟩
    · split at e
      · obtain ⟨_, _, h1⟩ := hx.nilSlice_inv
        simp only [Option.some.injEq] at e
        rcases hy.slice_inv with ⟨_, _, _, _, _, _, h2, _⟩ | ⟨_, _, _, _, h2⟩ <;> subst h1 h2 e <;>
        exact ⟨by simp [Op.equalIn, hu], fun op p q => eqGuard_val _ _ _ _ _ _ _ _ (by simp) (by simp), by simp, by simp⟩
      · cases e
  · rename_i kt el p q hd
    rw [hd] at hu
    have nm : ∀ {v : Value}, VRel m (.map none) v → v = .map none := fun h => by cases h; rfl
    unfold nilEq at e
    split at e
    · have h2 := nm hy
      subst h2
      simp only [Option.some.injEq] at e
      cases p with
      | none =>
        have h1 := nm hx
        subst h1 e
        exact ⟨by simp [Op.equalIn, hu], fun op p q => eqGuard_val _ _ _ _ _ _ _ _ (by simp) (by simp), by simp, by simp⟩
      | some p =>
        obtain ⟨_, _, h1⟩ := hx.map_inv
        subst h1 e
        exact ⟨by simp [Op.equalIn, hu], fun op p q => eqGuard_val _ _ _ _ _ _ _ _ (by simp) (by simp), by simp, by simp⟩
    · split at e
      · have h1 := nm hx
        obtain ⟨_, _, h2⟩ := hy.map_inv
        simp only [Option.some.injEq] at e
        subst h1 h2 e
        exact ⟨by simp [Op.equalIn, hu], fun op p q => eqGuard_val _ _ _ _ _ _ _ _ (by simp) (by simp), by simp, by simp⟩
      · cases e
  · rename_i hd
    rw [hd] at hu
    simp only [Option.some.injEq] at e
    subst e
    cases hx
    cases hy
    exact ⟨by simp [Op.equalIn, hu], fun op p q => eqGuard_val _ _ _ _ _ _ _ _ (by simp) (by simp), by simp, by simp⟩
  · rename_i hd
    rw [hd] at hu
    simp only [Option.some.injEq] at e
    subst e
    cases hx
    cases hy
    exact ⟨by simp [Op.equalIn, hu], fun op p q => eqGuard_val _ _ _ _ _ _ _ _ (by simp) (by simp), by simp, by simp⟩
  · rename_i hd
    rw [hd] at hu
    simp only [Option.some.injEq] at e
    subst e
    cases hx
    cases hy
    exact ⟨by simp [Op.equalIn, hu], fun op p q => eqGuard_val _ _ _ _ _ _ _ _ (by simp) (by simp), by simp, by simp⟩
  · rename_i hd
    rw [hd] at hu
    simp only [Option.some.injEq] at e
    subst e
    cases hx
    cases hy
    exact ⟨by simp [Op.equalIn, hu], fun op p q => eqGuard_val _ _ _ _ _ _ _ _ (by simp) (by simp), by simp, by simp⟩
  · rename_i hd
    rw [hd] at hu
    simp only [Option.some.injEq] at e
    subst e
    cases hx
    cases hy
    exact ⟨by simp [Op.equalIn, hu], fun op p q => eqGuard_val _ _ _ _ _ _ _ _ (by simp) (by simp), by simp, by simp⟩
  · rename_i fs a1 a2 hd
    split at e
    · rename_i hq
      obtain ⟨hs, hg⟩ := hi.eqs hq
      obtain ⟨a1', rfl, l1⟩ := hx.agg_inv
      obtain ⟨a2', rfl, l2⟩ := hy.agg_inv
      have hf : P.fieldsOf t = fs := by unfold Program.fieldsOf; rw [hi.d, hd]
      have hst := run_equalIn_struct (P := P) w (d + 1) t a1' a2' (by rw [hf, hi.d, hd]) hs
      refine ⟨?_, fun op p q => run_eqGuard_agg w op t p q a1' a2' hg, by simp, by simp⟩
      rw [hst, hf]
      exact eqFields_run hE d _ e l1 l2
    · cases e
  · cases e

end
end Go.Amb
