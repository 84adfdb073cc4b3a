/- Part of the proof by the abstract machine: no claim of its own. -/
import Derived.Test.YtnfncnchbogncaaDoorA7
import Derived.Laws.Slices
set_option linter.unusedSimpArgs false
set_option linter.unusedVariables false
set_option linter.unnecessarySimpa false
set_option linter.unusedSectionVars false
/- The abstract machine, part 8: more operations. -/
set_option linter.unusedVariables false
namespace Go.Amb
open Go.RowKit

section
variable {P : Program} {E : Env} {G nt : Nat} {B : Kept}
variable {m : MP} {h : AHeap} {w : World} {tm : PT Value} {a : Act} {call : Call} {k kp : KV} {r : Ans}

theorem intOp_flat {op : BinOp} {kd : IntKind} {x y : Int} {v : Value} (e : intOp op kd x y = some v) : VRel m v v := by
  cases op <;> simp only [intOp] at e <;> first
    | (simp only [Option.some.injEq] at e; subst e; first | exact .int _ _ | exact .bool _)
    | (split at e
       · cases e
       · simp only [Option.some.injEq] at e; subst e; exact .int _ _)
    | cases e
theorem shOp_flat {op : BinOp} {kd : IntKind} {x y : Int} {v : Value} (e : shOp op kd x y = some v) : VRel m v v := by
  unfold shOp at e
  split at e
  · cases e
  · split at e
    · simp only [Option.some.injEq] at e; subst e; exact .int _ _
    · simp only [Option.some.injEq] at e; subst e; exact .int _ _
    · cases e
theorem strOp_flat {op : BinOp} {x y : ByteArray} {v : Value} (e : strOp op x y = some v) : VRel m v v := by
  cases op <;> simp only [strOp] at e <;> first
    | (simp only [Option.some.injEq] at e; subst e; exact .bool _)
    | (split at e
       · simp only [Option.some.injEq] at e; subst e; exact .string _
       · cases e)
    | cases e
theorem binOp_eq {x x' : Value} (hx : VRel m x x') (h1 : ∀ kd n, x' ≠ .int kd n) (h2 : ∀ s, x' ≠ .string s) (t : TypeId) (y : Value) :
    binOp .eql t x' y = (do pure (.bool (← Op.equal t x' y))) ∧ binOp .neq t x' y = (do pure (.bool (!(← Op.equal t x' y)))) := by
  cases hx <;> first
    | exact ⟨rfl, rfl⟩
    | exact absurd rfl (h1 _ _)
    | exact absurd rfl (h2 _)

theorem binV_run (hE : E.Ok P G) (H : HRel B m h w) {op : BinOp} {t : TypeId} {x y x' y' v : Value} (e : binV E op t x y = some v) (hx : VRel m x x') (hy : VRel m y y') :
    (binOp op t x' y').run P w = .ok v w ∧ VRel m v v ∧ ∀ p q, (eqGuard op t p q x' y').run P w = .ok () w := by
  unfold binV at e
  split at e
  · rename_i ka n kb q
    have h1 := hx.int_inv
    have h2 := hy.int_inv
    subst h1 h2
    have hg : ∀ p r, (eqGuard op t p r (.int ka n) (.int kb q)).run P w = .ok () w := fun p r => eqGuard_val _ _ _ _ _ _ _ _ (by simp) (by simp)
    split at e
    · exact ⟨shOp_run e (.inl rfl) t P w, shOp_flat e, hg⟩
    · exact ⟨shOp_run e (.inr rfl) t P w, shOp_flat e, hg⟩
    · rename_i n1 n2
      split at e
      · rename_i hk
        have := ikEq_eq hk
        subst this
        exact ⟨intOp_run e (by rintro rfl; simp [intOp] at e) (by rintro rfl; simp [intOp] at e) t P w, intOp_flat e, hg⟩
      · cases e
  · have h1 := hx.string_inv
    have h2 := hy.string_inv
    subst h1 h2
    exact ⟨strOp_run e t P w, strOp_flat e, fun p r => eqGuard_val _ _ _ _ _ _ _ _ (by simp) (by simp)⟩
  · split at e
    · obtain ⟨b, eb, e⟩ := ob_eq e
      simp only [Option.some.injEq] at e
      obtain ⟨g1, g2, g3, g4⟩ := eqOp_run hE H eb hx hy
      subst e
      exact ⟨by rw [(binOp_eq hx g3 g4 t y').1]; simp [g1], .bool _, fun p q => g2 _ p q⟩
    · obtain ⟨b, eb, e⟩ := ob_eq e
      simp only [Option.some.injEq] at e
      obtain ⟨g1, g2, g3, g4⟩ := eqOp_run hE H eb hx hy
      subst e
      exact ⟨by rw [(binOp_eq hx g3 g4 t y').2]; simp [g1], .bool _, fun p q => g2 _ p q⟩
    · cases e
theorem op_binOp (hE : E.Ok P G) (hG : ∀ i, i < G → B.old i) (H : HRel B m h w) (T : TRel nt m tm a) {op : BinOp} {t ty : TypeId} {x y : Operand} {o : Oper} (ho : o.op = .binOp op t x y ty) (hx : xOk nt G x = true) (hy : xOk nt G y = true)
    (e : evOp E call o.op tm h k kp = some r) : OpRes P B m h w (execOp a.eval o) k r := by
  rw [ho] at e
  obtain ⟨v, ev, e⟩ := ob_eq e
  obtain ⟨h1, h2, h3⟩ := binV_run hE H ev (T.opnd H hG hx) (T.opnd H hG hy)
  simp only [execOp, ho]
  exact OpRes.mk e (Gr.refl h m) H h2 (Bel.refl B w) (by simp [h3, h1])

theorem op_makeInterface (hE : E.Ok P G) (hG : ∀ i, i < G → B.old i) (H : HRel B m h w) (T : TRel nt m tm a) {t : TypeId} {x : Operand} {o : Oper} (ho : o.op = .makeInterface t x) (hx : xOk nt G x = true)
    (e : evOp E call o.op tm h k kp = some r) : OpRes P B m h w (execOp a.eval o) k r := by
  rw [ho] at e
  obtain ⟨i, ei, e⟩ := ob_eq e
  have hi := hE.ti t i ei
  simp only [execOp, ho]
  split at e
  · cases e
  · rename_i hd
    refine OpRes.mk e (Gr.refl h m) H (.iface t _ _ (T.opnd H hG hx)) (Bel.refl B w) ?_
    simp only [Instr.makeInterface, Sem.run_bind, run_under hi, Result.andThen_ok]
    first
      | rfl
      | (split
         · rename_i q hq; exact absurd hq (hd q)
         · rfl)

theorem LRel.mapA (hG : ∀ i, i < G → B.old i) (H : HRel B m h w) (T : TRel nt m tm a) {xs : List Operand} (hx : xs.all (xOk nt G) = true) : LRel m (xs.map (opnd tm)) (xs.map a.eval) := by
  induction xs with
  | nil => exact LRel.nil m
  | cons x xs ih =>
    simp only [List.all_cons, Bool.and_eq_true] at hx
    exact LRel.cons (T.opnd H hG hx.1) (ih hx.2)
theorem VRel.funcL {f : Fn} {x x' y y' : List Value} (hx : LRel m x x') (hy : LRel m y y') : VRel m (.func f x.toArray y.toArray) (.func f x'.toArray y'.toArray) :=
  .func f _ _ _ _ (by simpa using hx.1) (fun i v v' p q => hx.2 i v v' (by simpa using p) (by simpa using q)) (by simpa using hy.1) (fun i v v' p q => hy.2 i v v' (by simpa using p) (by simpa using q))

theorem op_makeFunc (hG : ∀ i, i < G → B.old i) (H : HRel B m h w) (T : TRel nt m tm a) {fn : Fn} {xs ys : Array Operand} {o : Oper} (ho : o.op = .makeFunc fn xs ys) (hx : (xs ++ ys).toList.all (xOk nt G) = true)
    (e : evOp E call o.op tm h k kp = some r) : OpRes P B m h w (execOp a.eval o) k r := by
  rw [ho] at e
  simp only [evOp, opMakeFunc] at e
  split at e
  · rename_i f
    simp only [Array.toList_append, List.all_append, Bool.and_eq_true] at hx
    have := VRel.funcL (f := .func f) (LRel.mapA hG H T hx.1) (LRel.mapA hG H T hx.2)
    simp only [execOp, ho]
    refine OpRes.mk e (Gr.refl h m) H (v' := .func (.func f) (xs.map a.eval) (ys.map a.eval)) ?_ (Bel.refl B w) rfl
    have e1 : ∀ (g : Operand → Value) (zs : Array Operand), zs.map g = (zs.toList.map g).toArray := fun g zs => Array.ext' (by rw [Array.toList_map])
    rw [e1 _ xs, e1 _ ys, e1 _ xs, e1 _ ys]
    exact this
  · cases e

theorem op_makeMap (H : HRel B m h w) {t : TypeId} {o : Oper} (ho : o.op = .makeMap t none)
    (e : evOp E call o.op tm h k kp = some r) : OpRes P B m h w (execOp a.eval o) k r := by
  rw [ho] at e
  simp only [evOp] at e
  simp only [execOp, ho]
  obtain ⟨h1, h2⟩ := H.alloc (.map []) (.map #[] 0) ⟨w.heap.size, 0, 0, 0, none⟩ rfl ⟨H.free, #[], 0, heap_alloc_self _ _, rfl, fun k p e a b => by cases a⟩
  refine OpRes.mk e h2 h1 (.map (MP.put_same _ _ _)) (below_alloc H _) ?_
  simp [Instr.makeMap]

theorem op_extract (hG : ∀ i, i < G → B.old i) (H : HRel B m h w) (T : TRel nt m tm a) {x : Operand} {ix : Nat} {o : Oper} (ho : o.op = .extract x ix) (hx : xOk nt G x = true)
    (e : evOp E call o.op tm h k kp = some r) : OpRes P B m h w (execOp a.eval o) k r := by
  rw [ho] at e
  obtain ⟨l, el, e⟩ := ob_eq e
  obtain ⟨v, ev, e⟩ := ob_eq e
  have hv := T.opnd H hG hx
  rw [tup?_eq el] at hv
  obtain ⟨a', ha, hl⟩ := hv.tuple_inv
  obtain ⟨v', hv', hr⟩ := hl.get (by simpa using ev)
  simp only [execOp, ho]
  refine OpRes.mk e (Gr.refl h m) H hr (Bel.refl B w) ?_
  have : a'[ix]? = some v' := by simpa using hv'
  simp [Instr.extract, ha, this]

theorem op_fieldAddr (hE : E.Ok P G) (hG : ∀ i, i < G → B.old i) (H : HRel B m h w) (T : TRel nt m tm a) {t : TypeId} {x : Operand} {f : Nat} {o : Oper} (ho : o.op = .fieldAddr t x f) (hx : xOk nt G x = true)
    (e : evOp E call o.op tm h k kp = some r) : OpRes P B m h w (execOp a.eval o) k r := by
  rw [ho] at e
  obtain ⟨i, ei, e⟩ := ob_eq e
  have hi := hE.ti t i ei
  have hu := run_under hi w
  split at e
  · rename_i fs hd
    obtain ⟨fd, ef, e⟩ := ob_eq e
    obtain ⟨g, eg, e⟩ := ob_eq e
    have hg := hE.ti _ g eg
    split at e
    · cases e
    · rename_i hk
      obtain ⟨p, ep, e⟩ := ob_eq e
      obtain ⟨ad, rfl, e1⟩ := ob_eq e
      have hv := T.opnd H hG hx
      rw [ptr?_eq ep] at hv
      obtain ⟨hs, rf, hr, hv⟩ := hv.ptr_inv
      simp only [execOp, ho]
      refine OpRes.mk e1 (Gr.refl h m) H (.ptr hr) (Bel.refl B w) ?_
      have ef' : fs[f]? = some fd := by simpa using ef
      rw [hd] at hu
      simp [Instr.fieldAt, hu, ef', hv, Instr.sureAddr, fieldPlace, run_sizeOf hg, hk, add_none]
      omega
  · cases e

theorem partV_run (hE : E.Ok P G) {t : TypeId} {l : List Value} {l' : Array Value} {of : Nat} {v : Value} (e : partV E t l of = some v) (hl : LRel m l l'.toList) :
    ∃ v', (part t l' of).run P w = .ok v' w ∧ VRel m v v' := by
  obtain ⟨i, ei, e⟩ := ob_eq e
  have hi := hE.ti t i ei
  split at e
  · rename_i ha
    simp only [Option.some.injEq] at e
    subst e
    refine ⟨.agg (l'.extract of (of + i.lk.length)), by simp [part, run_isAgg hi, ha, run_sizeOf hi], ?_⟩
    have := ((hl.drop of).take i.lk.length).agg
    have e2 : l'.extract of (of + i.lk.length) = ((l'.toList.drop of).take i.lk.length).toArray := by
      apply Array.ext'
      simp [List.extract_eq_take_drop]
    rw [e2]
    exact this
  · rename_i ha
    obtain ⟨v', h1, h2⟩ := hl.get e
    exact ⟨v', run_part hi ha (by simpa using h1), h2⟩
theorem op_field (hE : E.Ok P G) (hG : ∀ i, i < G → B.old i) (H : HRel B m h w) (T : TRel nt m tm a) {t : TypeId} {x : Operand} {f : Nat} {o : Oper} (ho : o.op = .field t x f) (hx : xOk nt G x = true)
    (e : evOp E call o.op tm h k kp = some r) : OpRes P B m h w (execOp a.eval o) k r := by
  rw [ho] at e
  obtain ⟨i, ei, e⟩ := ob_eq e
  have hi := hE.ti t i ei
  have hu := run_under hi w
  split at e
  · rename_i fs hd
    obtain ⟨fd, ef, e⟩ := ob_eq e
    obtain ⟨l, el, e⟩ := ob_eq e
    obtain ⟨v, ev, e⟩ := ob_eq e
    have hv := T.opnd H hG hx
    rw [agg?_eq el] at hv
    obtain ⟨a', ha, hl⟩ := hv.agg_inv
    obtain ⟨v', h1, h2⟩ := partV_run (P := P) (w := w) hE ev (by simpa using hl)
    simp only [execOp, ho]
    refine OpRes.mk e (Gr.refl h m) H h2 (Bel.refl B w) ?_
    have ef' : fs[f]? = some fd := by simpa using ef
    rw [hd] at hu
    simp [Instr.field, hu, ef', ha, asAgg, h1]
  · cases e

theorem idx?_eq {n : Int} {len q : Nat} (e : idx? n len = some q) : 0 ≤ n ∧ n < len ∧ q = n.toNat := by
  unfold idx? at e
  split at e
  · rename_i hc
    simp only [Option.some.injEq] at e
    simp at hc
    exact ⟨hc.1, hc.2, e.symm⟩
  · cases e
theorem bnd?_eq {n : Int} {len q : Nat} (e : bnd? n len = some q) : 0 ≤ n ∧ n ≤ len ∧ q = n.toNat := by
  unfold bnd? at e
  split at e
  · rename_i hc
    simp only [Option.some.injEq] at e
    simp at hc
    exact ⟨hc.1, hc.2, e.symm⟩
  · cases e

theorem op_indexAddr (hE : E.Ok P G) (hG : ∀ i, i < G → B.old i) (H : HRel B m h w) (T : TRel nt m tm a) {t : TypeId} {x ix : Operand} {o : Oper} (ho : o.op = .indexAddr t x ix) (hx : xOk nt G x = true) (hix : xOk nt G ix = true)
    (e : evOp E call o.op tm h k kp = some r) : OpRes P B m h w (execOp a.eval o) k r := by
  rw [ho] at e
  obtain ⟨i, ei, e⟩ := ob_eq e
  obtain ⟨n, en, e⟩ := ob_eq e
  have hi := hE.ti t i ei
  have hu := run_under hi w
  have hn := T.opnd H hG hix
  rw [num?_eq en] at hn
  have hn := hn.int_inv
  have hv := T.opnd H hG hx
  simp only [execOp, ho]
  split at e
  · rename_i el hd
    obtain ⟨j, ej, e⟩ := ob_eq e
    obtain ⟨s, es, e⟩ := ob_eq e
    obtain ⟨ad, ea, e⟩ := ob_eq e
    obtain ⟨q, eq, e⟩ := ob_eq e
    have hj := hE.ti _ j ej
    rw [slc?_eq es, ea] at hv
    obtain ⟨q0, q1, q2⟩ := idx?_eq eq
    obtain ⟨hs, hlc, rf, y, c', hr, hv, hcc, hy⟩ := hv.slice_inv.resolve_right fun ⟨_, h0, _⟩ => by omega
    have hy : y = rf.o + ad.off := by
      rcases hy with hy | hy
      · exact hy
      · rcases hcc with h1 | ⟨h1, _⟩ <;> omega
    subst hy
    refine OpRes.mk e (Gr.refl h m) H (.ptr hr) (Bel.refl B w) ?_
    rw [hd] at hu
    subst q2
    simp [Instr.indexAt, hn, hu, hv, asIntOf, q0, q1, run_sizeOf hj, add_none]
    omega
  · rename_i len el hd
    obtain ⟨j, ej, e⟩ := ob_eq e
    obtain ⟨p, ep, e⟩ := ob_eq e
    obtain ⟨ad, rfl, e1⟩ := ob_eq e
    obtain ⟨q, eq, e2⟩ := ob_eq e1
    have hj := hE.ti _ j ej
    rw [ptr?_eq ep] at hv
    obtain ⟨hs, rf, hr, hv⟩ := hv.ptr_inv
    obtain ⟨q0, q1, q2⟩ := idx?_eq eq
    refine OpRes.mk e2 (Gr.refl h m) H (.ptr hr) (Bel.refl B w) ?_
    rw [hd] at hu
    subst q2
    simp [Instr.indexAt, hn, hu, hv, asIntOf, Instr.sureAddr, q0, q1, run_sizeOf hj, add_none]
    omega
  · cases e

theorem op_index (hE : E.Ok P G) (hG : ∀ i, i < G → B.old i) (H : HRel B m h w) (T : TRel nt m tm a) {t : TypeId} {x ix : Operand} {o : Oper} (ho : o.op = .index t x ix) (hx : xOk nt G x = true) (hix : xOk nt G ix = true)
    (e : evOp E call o.op tm h k kp = some r) : OpRes P B m h w (execOp a.eval o) k r := by
  rw [ho] at e
  obtain ⟨i, ei, e⟩ := ob_eq e
  obtain ⟨n, en, e⟩ := ob_eq e
  have hi := hE.ti t i ei
  have hu := run_under hi w
  have hn := T.opnd H hG hix
  rw [num?_eq en] at hn
  have hn := hn.int_inv
  have hv := T.opnd H hG hx
  simp only [execOp, ho]
  split at e
  · rename_i s hd hs
    obtain ⟨q, eq, e⟩ := ob_eq e
    obtain ⟨b, eb, e⟩ := ob_eq e
    rw [hs] at hv
    have hv := hv.string_inv
    obtain ⟨q0, q1, q2⟩ := idx?_eq eq
    refine OpRes.mk e (Gr.refl h m) H (.int _ _) (Bel.refl B w) ?_
    rw [hd] at hu
    subst q2
    have hq : n.2.toNat < s.size := by omega
    have hb : s[n.2.toNat]? = some b := by
      rw [getElem?_pos s n.2.toNat hq]
      have h1 : n.2.toNat < s.data.size := hq
      have h2 : s.data.toList[n.2.toNat]? = some s.data[n.2.toNat] := by simp
      rw [h2] at eb
      exact eb
    simp [Instr.index, hn, hu, hv, asIntOf, q0, hb]
  · rename_i len el cs hd hs
    obtain ⟨j, ej, e⟩ := ob_eq e
    obtain ⟨q, eq, e⟩ := ob_eq e
    obtain ⟨v, ev, e⟩ := ob_eq e
    have hj := hE.ti _ j ej
    rw [hs] at hv
    obtain ⟨a', ha, hl⟩ := hv.agg_inv
    obtain ⟨v', h1, h2⟩ := partV_run (P := P) (w := w) hE ev hl
    obtain ⟨q0, q1, q2⟩ := idx?_eq eq
    refine OpRes.mk e (Gr.refl h m) H h2 (Bel.refl B w) ?_
    rw [hd] at hu
    subst q2
    simp [Instr.index, hn, hu, ha, asIntOf, q0, q1, run_sizeOf hj, h1]
  · cases e

end
end Go.Amb
