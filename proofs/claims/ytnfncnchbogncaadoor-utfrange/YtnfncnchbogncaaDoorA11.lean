/- Part of the proof by the abstract machine: no claim of its own. -/
import Derived.Test.YtnfncnchbogncaaDoorA10
import Derived.Laws.BytesArg
set_option linter.unusedSimpArgs false
set_option linter.unusedVariables false
set_option linter.unnecessarySimpa false
set_option linter.unusedSectionVars false
/- The abstract machine, part 11: conversions, assertions, maps, ranges over strings. -/
set_option linter.unusedVariables false
namespace Go.Amb
open Go.RowKit

section
variable {P : Program} {E : Env} {G nt : Nat} {B : Kept}
variable {m : MP} {h : AHeap} {w : World} {tm : PT Value} {a : Act} {call : Call} {k kp : KV} {r : Ans}

theorem bytesOf?_eq : ∀ {l : List Value} {bs : List UInt8}, bytesOf? l = some bs → ∃ xs : List Int, l = xs.map (Value.int .u8) ∧ bs = xs.map fun n => UInt8.ofNat n.toNat := by
  intro l
  induction l with
  | nil => intro bs e; simp only [bytesOf?, Option.some.injEq] at e; subst e; exact ⟨[], rfl, rfl⟩
  | cons v l ih =>
    intro bs e
    unfold bytesOf? at e
    split at e
    · rename_i heq; cases heq
    · rename_i n rr heq
      simp only [List.cons.injEq] at heq
      obtain ⟨rfl, rfl⟩ := heq
      obtain ⟨bs', e1, e⟩ := ob_eq e
      simp only [Option.some.injEq] at e
      subst e
      obtain ⟨xs, h1, h2⟩ := ih e1
      exact ⟨n :: xs, by simp [h1], by simp [h2]⟩
    · cases e
theorem LRel.flat {xs : List Int} {kd : IntKind} {l' : List Value} (hl : LRel m (xs.map (Value.int kd)) l') : l' = xs.map (Value.int kd) := by
  apply List.ext_getElem?
  intro i
  by_cases hi : i < xs.length
  · have h1 : (xs.map (Value.int kd))[i]? = some (.int kd xs[i]) := by simp [hi]
    obtain ⟨v', h2, h3⟩ := hl.get h1
    rw [h2, h1, h3.int_inv]
  · have h1 : l'.length = xs.length := by rw [← hl.1]; simp
    rw [List.getElem?_eq_none (by omega), List.getElem?_eq_none (by simp; omega)]

theorem run_convert_bytes_zero (w : World) (src e : TypeId) (hs : P.underlying src = some (.slice e)) (he : P.underlying e = some (.int .u8)) (ad : Addr) :
    ∀ dst, P.underlying dst = some .string → (convert src dst (.slice (some ad) 0 0)).run P w = .ok (.string (strOfNums [])) w := by
  intro dst hd
  have hl : (loadCells ad 0).run P w = .ok ((([] : List Int).map (Value.int .u8)).toArray) w := Go.run_loadCells_list (P := P) w ad [] fun j v h => by simp at h
  rw [run_convert_bytes_string w src dst e _ 0 0 hs he hd, run_bytesToString w _ 0 0 [] hl, foldl_push_bytes]
  simp [strOfNums, ByteArray.empty, ByteArray.emptyWithCapacity]
  rfl
theorem op_convert (hE : E.Ok P G) (hG : ∀ i, i < G → B.old i) (H : HRel B m h w) (T : TRel nt m tm a) {s d : TypeId} {x : Operand} {o : Oper} (ho : o.op = .convert s d x) (hx : xOk nt G x = true)
    (e : evOp E call o.op tm h k kp = some r) : OpRes P B m h w (execOp a.eval o) k r := by
  rw [ho] at e
  obtain ⟨i, ei, e⟩ := ob_eq e
  obtain ⟨j, ej, e⟩ := ob_eq e
  have hi := hE.ti s i ei
  have hj := hE.ti d j ej
  have hu := run_under hi w
  have hu' := run_under hj w
  have hv := T.opnd H hG hx
  simp only [execOp, ho]
  split at e
  · rename_i hd hs
    rw [hs] at hv
    have hv := hv.int_inv
    rw [hd] at hu'
    refine OpRes.mk e (Gr.refl h m) H (.int _ _) (Bel.refl B w) ?_
    simp [convert, hu, hu', hv, Conv.intToInt]
  · rename_i hd hs
    rw [hs] at hv
    have hv := hv.int_inv
    rw [hd] at hu'
    refine OpRes.mk e (Gr.refl h m) H (.string _) (Bel.refl B w) ?_
    simp [convert, hu, hu', hv, Conv.intToString]
  · rename_i hd hs
    rw [hs] at hv
    have hv := hv.string_inv
    rw [hd] at hu'
    refine OpRes.mk e (Gr.refl h m) H (.string _) (Bel.refl B w) ?_
    simp [convert, hu, hu', hv]
  · rename_i el ad n c hd hd' hs
    obtain ⟨q, eq, e⟩ := ob_eq e
    have hq := hE.ti _ q eq
    rw [hs] at hv
    split at e
    · rename_i hqd _
      obtain ⟨z1, z2, hv⟩ := hv.nilSlice_inv
      refine OpRes.mk e (Gr.refl h m) H (.string _) (Bel.refl B w) ?_
      rw [hv]
      exact run_convert_bytes_nil w s el (by rw [hi.d, hd]) (by rw [hq.d, hqd]) 0 0 d (by rw [hj.d, hd'])
    · rename_i ad hqd _
      obtain ⟨l, el2, e⟩ := ob_eq e
      obtain ⟨bs, eb, e⟩ := ob_eq e
      obtain ⟨hl1, hl2⟩ := row?_eq el2
      obtain ⟨xs, hx1, hx2⟩ := bytesOf?_eq eb
      rcases hv.slice_inv with ⟨hsp, hlc, rf, y, c', hr, hv, hcc, hy⟩ | ⟨hsp, hl0, hc0, ad', hvv⟩
      rotate_left
      · have e9 := e
        subst hl0 hc0
        have hxs : xs = [] := List.eq_nil_of_length_eq_zero (by have := hl1; rw [hx1] at this; simpa using this)
        subst hxs
        refine OpRes.mk e9 (Gr.refl h m) H (v' := .string (strOfNums [])) (by rw [hx2]; exact .string _) (Bel.refl B w) ?_
        rw [hvv]
        exact run_convert_bytes_zero w s el (by rw [hi.d, hd]) (by rw [hq.d, hqd]) ad' d (by rw [hj.d, hd'])
      obtain ⟨l', hL, hR⟩ := H.cells hr hl2
      rw [hx1] at hL
      have hl' := hL.flat
      subst hl'
      have hxl : xs.length = n := by rw [← hl1, hx1]; simp
      refine OpRes.mk e (Gr.refl h m) H (v' := .string (strOfNums xs)) ?_ (Bel.refl B w) ?_
      · rw [hx2]; exact .string _
      · rw [hv]
        refine run_convert_bytes_arg w s el (by rw [hi.d, hd]) (by rw [hq.d, hqd]) rf.b y n c' xs hxl (fun q hq => ?_) d (by rw [hj.d, hd'])
        have hy' : y = rf.o + ad.off := by
          rcases hy with hy | hy
          · exact hy
          · rcases hcc with g | ⟨g, _⟩ <;> omega
        have := hR q (.int .u8 (xs.getD q 0)) (by simp [List.getD, show q < xs.length by omega])
        rw [add_none] at this
        rw [hy']
        exact this
    · cases e
  · cases e

theorem op_typeAssert (hE : E.Ok P G) (hG : ∀ i, i < G → B.old i) (H : HRel B m h w) (T : TRel nt m tm a) {x : Operand} {xt t : TypeId} {ok : Bool} {o : Oper} (ho : o.op = .typeAssert x xt t ok) (hx : xOk nt G x = true)
    (e : evOp E call o.op tm h k kp = some r) : OpRes P B m h w (execOp a.eval o) k r := by
  rw [ho] at e
  obtain ⟨i, ei, e⟩ := ob_eq e
  have hi := hE.ti t i ei
  have hu := run_under hi w
  have hv := T.opnd H hG hx
  have hz : VRel m i.zero i.zero := VRel.cOk hi.zero.1
  have two : ∀ {u u' : Value} (b : Bool), VRel m u u' → VRel m (.tuple #[u, .bool b]) (.tuple #[u', .bool b]) := fun b hu => (LRel.cons hu (LRel.cons (.bool b) (LRel.nil m))).tuple
  simp only [execOp, ho]
  split at e
  · cases e
  · rename_i hni
    split at e
    · rename_i u v hs
      rw [hs] at hv
      obtain ⟨v', hv1, hv2⟩ := hv.iface_inv
      split at e
      · rename_i hut
        have heq := Nat.eq_of_beq_eq_true hut
        cases ok with
        | true =>
          refine OpRes.mk e (Gr.refl h m) H (two true hv2) (Bel.refl B w) ?_
          simp only [Instr.typeAssert, Sem.run_bind, hu, Result.andThen_ok, hv1]
          cases hd : i.d <;> first
            | exact absurd hd (hni _)
            | simp [heq]
        | false =>
          refine OpRes.mk e (Gr.refl h m) H hv2 (Bel.refl B w) ?_
          simp only [Instr.typeAssert, Sem.run_bind, hu, Result.andThen_ok, hv1]
          cases hd : i.d <;> first
            | exact absurd hd (hni _)
            | simp [heq]
      · rename_i hut
        have hne : ¬ u = t := fun e0 => by subst e0; simp at hut
        cases ok with
        | false => cases e
        | true =>
          refine OpRes.mk e (Gr.refl h m) H (two false hz) (Bel.refl B w) ?_
          simp only [Instr.typeAssert, Sem.run_bind, hu, Result.andThen_ok, hv1]
          cases hd : i.d <;> first
            | exact absurd hd (hni _)
            | simp [hne, run_zeroValue hi]
    · rename_i hs
      rw [hs] at hv
      have hv1 : a.eval x = .nilIface := by generalize a.eval x = q at hv; cases hv; rfl
      cases ok with
      | false => cases e
      | true =>
        refine OpRes.mk e (Gr.refl h m) H (two false hz) (Bel.refl B w) ?_
        simp only [Instr.typeAssert, Sem.run_bind, hu, Result.andThen_ok, hv1]
        cases hd : i.d <;> first
          | exact absurd hd (hni _)
          | simp [run_zeroValue hi]
    · cases e

theorem op_range (hE : E.Ok P G) (hG : ∀ i, i < G → B.old i) (H : HRel B m h w) (T : TRel nt m tm a) {t : TypeId} {x : Operand} {o : Oper} (ho : o.op = .range t x) (hx : xOk nt G x = true)
    (e : evOp E call o.op tm h k kp = some r) : OpRes P B m h w (execOp a.eval o) k r := by
  rw [ho] at e
  obtain ⟨i, ei, e⟩ := ob_eq e
  have hi := hE.ti t i ei
  have hu := run_under hi w
  have hv := T.opnd H hG hx
  simp only [execOp, ho]
  split at e
  · rename_i s hd hs
    rw [hs] at hv
    have hv := hv.string_inv
    rw [hd] at hu
    obtain ⟨h1, h2⟩ := H.alloc (.iter s 0) (.stringIter s 0) ⟨w.heap.size, 0, 0, 0, none⟩ rfl ⟨H.free, rfl, heap_alloc_self _ _⟩
    refine OpRes.mk e h2 h1 (VRel.new (MP.put_same _ _ _) rfl) (below_alloc H _) ?_
    simp [Instr.range, hu, hv]
  · cases e

theorem heap_setObj {w : World} {b : Nat} (o : Obj) (hb : b < w.heap.size) : ({ w with heap := w.heap.setIfInBounds b o } : World).heap[b]? = some o ∧ (∀ j, j ≠ b → ({ w with heap := w.heap.setIfInBounds b o } : World).heap[j]? = w.heap[j]?) := by
  refine ⟨by simp [hb], fun j hj => ?_⟩
  exact Array.getElem?_setIfInBounds_ne (fun e => hj e.symm)

theorem op_next (hG : ∀ i, i < G → B.old i) (H : HRel B m h w) (T : TRel nt m tm a) {x : Operand} {o : Oper} (ho : o.op = .next x true) (hx : xOk nt G x = true)
    (e : evOp E call o.op tm h k kp = some r) : OpRes P B m h w (execOp a.eval o) k r := by
  rw [ho] at e
  obtain ⟨p, ep, e⟩ := ob_eq e
  obtain ⟨ad, ead, e⟩ := ob_eq e
  have hv := T.opnd H hG hx
  rw [ptr?_eq ep, ead] at hv
  obtain ⟨hsp, rf, hr, hv⟩ := hv.ptr_inv
  simp only [execOp, ho]
  split at e
  · rename_i hoff
    have hoff := Nat.eq_of_beq_eq_true hoff
    obtain ⟨q, eq, e⟩ := ob_eq e
    have hob := H.obj _ _ hr
    have hlive : h.get ad.block ≠ .gone := by
      intro hg
      simp only [AHeap.iter?, hg] at eq
      cases eq
    unfold AHeap.iter? at eq
    split at eq
    · rename_i s pos hg
      simp only [Option.some.injEq] at eq
      subst eq
      rw [hg] at hob
      obtain ⟨hB, ho0, hw⟩ := hob
      have hb : rf.b < w.heap.size := (Array.getElem?_eq_some_iff.1 hw).1
      obtain ⟨g1, g2⟩ := heap_setObj (.stringIter s (pos + (Utf8.decode s pos).2)) hb
      have hgo : (getObj rf.b).run P w = .ok (.stringIter s pos) w := by simp [getObj, Sem.run, hw]
      simp only at e
      split at e
      · rename_i hle
        have hle := Nat.le_of_ble_eq_true hle
        refine OpRes.mk e (Gr.refl h m) H (VRel.cOk (by rfl)) (Bel.refl B w) ?_
        have : ¬ pos < s.size := by omega
        simp [Instr.next, hv, hoff, ho0, hgo, this]
      · rename_i hle
        have hlt : pos < s.size := by
          have := Nat.ble_eq_true_of_le (n := s.size) (m := pos)
          rcases Nat.lt_or_ge pos s.size with g | g
          · exact g
          · rw [this g] at hle; cases hle
        refine OpRes.mk e (Gr.keep rfl) (H.turn hr hB hlive (.iter s (pos + (Utf8.decode s pos).2)) (by simp) g2 ⟨hB, ho0, g1⟩) (VRel.cOk (by rfl)) ⟨rfl, rfl, rfl, by simp, fun q hq => g2 q (fun e => hB (by rw [← e]; exact hq))⟩ ?_
        have hset : (setObj rf.b (.stringIter s (pos + (Utf8.decode s pos).2))).run P w = .ok () { w with heap := w.heap.setIfInBounds rf.b (.stringIter s (pos + (Utf8.decode s pos).2)) } := by simp [setObj, Sem.run, hw]
        simp [Instr.next, hv, hoff, ho0, hgo, hlt, hset, goInt]
    · cases eq
  · cases e

end
end Go.Amb
