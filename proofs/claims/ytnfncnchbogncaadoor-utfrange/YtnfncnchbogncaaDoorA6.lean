/- Part of the proof by the abstract machine: no claim of its own. -/
import Derived.Test.YtnfncnchbogncaaDoorA5
set_option linter.unusedSimpArgs false
set_option linter.unusedVariables false
set_option linter.unnecessarySimpa false
set_option linter.unusedSectionVars false
/- The abstract machine, part 6: one operation: moves, memory that is made, loads, stores. -/
set_option linter.unusedVariables false
namespace Go.Amb
open Go.RowKit

theorem VRel.iface_inv {m : MP} {t : TypeId} {v v' : Value} (h : VRel m (.iface t v) v') : ∃ u, v' = .iface t u ∧ VRel m v u := by
  cases h with
  | iface _ _ v' h => exact ⟨v', rfl, h⟩

/-- What an operation comes to, in the real world, that comes in the abstract one to r. -/
def OpRes (P : Program) (B : Kept) (m : MP) (h : AHeap) (w : World) (s : Sem Next) (k : KV) (r : Ans) : Prop :=
  ∃ v h' m' w' v', k v h' = some r ∧ Gr h m h' m' ∧ HRel B m' h' w' ∧ VRel m' v v' ∧ Bel B w w' ∧ (s.run P w = .ok (.value v') w' ∨ (v' = undef ∧ s.run P w = .ok .skip w'))

theorem OpRes.mk {P : Program} {B : Kept} {m : MP} {h : AHeap} {w : World} {s : Sem Value} {k : KV} {r : Ans} {v : Value} {h' : AHeap} {m' : MP} {w' : World} {v' : Value}
    (hk : k v h' = some r) (hm : Gr h m h' m') (H : HRel B m' h' w') (hv : VRel m' v v') (hb : Bel B w w') (hr : s.run P w = .ok v' w') :
    OpRes P B m h w (do pure (.value (← s))) k r :=
  ⟨v, h', m', w', v', hk, hm, H, hv, hb, .inl (by simp [hr])⟩
theorem OpRes.mkU {P : Program} {B : Kept} {m : MP} {h : AHeap} {w : World} {s : Sem Unit} {k : KV} {r : Ans} {h' : AHeap} {m' : MP} {w' : World}
    (hk : k undef h' = some r) (hm : Gr h m h' m') (H : HRel B m' h' w') (hb : Bel B w w') (hr : s.run P w = .ok () w') :
    OpRes P B m h w (do s; pure .skip) k r :=
  ⟨undef, h', m', w', undef, hk, hm, H, VRel.undef, hb, .inr ⟨rfl, by simp [hr]⟩⟩

section
variable {P : Program} {E : Env} {G nt : Nat} {B : Kept}

theorem run_typeInfo {t : TypeId} {j : TypeInfo} (h : P.info? t = some j) (w : World) : (typeInfo t).run P w = .ok j w := by simp [typeInfo, h]
theorem run_sizeOf {t : TypeId} {i : TI} (h : i.Ok P t) (w : World) : (sizeOf t).run P w = .ok i.lk.length w := by
  obtain ⟨j, h1, h2, _⟩ := h.info
  simp [sizeOf, run_typeInfo h1, h2]
theorem run_zeroValue {t : TypeId} {i : TI} (h : i.Ok P t) (w : World) : (zeroValue t).run P w = .ok i.zero w := by
  obtain ⟨j, h1, h2, h3, h4⟩ := h.info
  simp [zeroValue, run_typeInfo h1, h4]
theorem run_under {t : TypeId} {i : TI} (h : i.Ok P t) (w : World) : (underlying t).run P w = .ok i.d w := by simp [underlying, h.d]
theorem run_isAgg {t : TypeId} {i : TI} (h : i.Ok P t) (w : World) : (isAgg t).run P w = .ok i.agg w := by
  unfold isAgg
  simp only [Sem.run_bind, run_under h, Result.andThen_ok, h.agg]
  split <;> simp_all

theorem TI.Ok.zeroL {t : TypeId} {i : TI} (h : i.Ok P t) (m : MP) : LRel m i.zero.cells.toList i.zero.cells.toList := (VRel.cOk h.zero.1).cells

/-- A new row of cells. -/
theorem HRel.cellsNew {m : MP} {h : AHeap} {w : World} (H : HRel B m h w) (vs : List Value) (c : Array Value) (e : TypeId) (hl : LRel m vs c.toList) :
    ∃ m', Gr h m (h.new (.cells vs e none false)) m' ∧ m' h.next = some ⟨w.heap.size, 0, vs.length, c.size, none⟩ ∧ HRel B m' (h.new (.cells vs e none false)) (w.alloc (.cells c e)) := by
  obtain ⟨h1, h2⟩ := H.alloc (.cells vs e none false) (.cells c e) ⟨w.heap.size, 0, vs.length, c.size, none⟩ rfl ⟨rfl, rfl, c, (0, 0), heap_alloc_self _ _, rfl, fun k v hv => by
    obtain ⟨v', a, b⟩ := hl.get hv
    exact ⟨v', by simpa using a, b.mono (MP.le_put (H.fresh (Nat.le_refl _)))⟩, fun _ => ⟨H.free, fun k _ => by simp⟩⟩
  exact ⟨_, h2, MP.put_same _ _ _, h1⟩
theorem below_alloc {w : World} {m : MP} {h : AHeap} (H : HRel B m h w) (o : Obj) : Bel B w (w.alloc o) := (Bel.refl B w).alloc H.size o
theorem VRel.new {m : MP} {i : Nat} {r : Ref} (h : m i = some r) (ho : r.o = 0) : VRel m (.pointer (some ⟨i, 0, none⟩)) (.pointer (some ⟨r.b, 0, none⟩)) := by
  have := VRel.ptr (m := m) (x := 0) h
  rwa [ho] at this

variable {m : MP} {h : AHeap} {w : World} {tm : PT Value} {a : Act} {call : Call} {k kp : KV} {r : Ans}

theorem op_alloc (hE : E.Ok P G) (H : HRel B m h w) {t : TypeId} {o : Oper} (ho : o.op = .alloc t)
    (e : evOp E call o.op tm h k kp = some r) : OpRes P B m h w (execOp a.eval o) k r := by
  rw [ho] at e
  obtain ⟨i, ei, e⟩ := ob_eq e
  have hi := hE.ti t i ei
  simp only [execOp, ho]
  obtain ⟨m', h1, h2, h3⟩ := H.cellsNew i.zero.cells.toList i.zero.cells t (hi.zeroL m)
  refine OpRes.mk e h1 h3 (VRel.new h2 rfl) (below_alloc H _) ?_
  simp [Instr.alloc, run_zeroValue hi, newVar, newRow]

theorem op_box (hE : E.Ok P G) (hG : ∀ i, i < G → B.old i) (H : HRel B m h w) (T : TRel nt m tm a) {t : TypeId} {x : Operand} {o : Oper} (ho : o.op = .box t x) (hx : xOk nt G x = true)
    (e : evOp E call o.op tm h k kp = some r) : OpRes P B m h w (execOp a.eval o) k r := by
  rw [ho] at e
  have hv := T.opnd H hG hx
  simp only [execOp, ho]
  obtain ⟨m', h1, h2, h3⟩ := H.cellsNew (opnd tm x).cells.toList (a.eval x).cells t hv.cells
  refine OpRes.mk e h1 h3 (VRel.new h2 rfl) (below_alloc H _) ?_
  simp [Instr.box, newVar, newRow]

theorem op_move (hG : ∀ i, i < G → B.old i) (H : HRel B m h w) (T : TRel nt m tm a) {x : Operand} {o : Oper} (ho : o.op = .move x ∨ o.op = .assign x) (hx : xOk nt G x = true)
    (e : evOp E call o.op tm h k kp = some r) : OpRes P B m h w (execOp a.eval o) k r := by
  have hv := T.opnd H hG hx
  rcases ho with ho | ho <;> rw [ho] at e <;> simp only [execOp, ho] <;>
    exact ⟨_, _, _, _, _, e, Gr.refl h m, H, hv, Bel.refl B w, .inl rfl⟩

theorem op_pick (hG : ∀ i, i < G → B.old i) (H : HRel B m h w) (T : TRel nt m tm a) {c x y : Operand} {o : Oper} (ho : o.op = .pick c x y) (hc : xOk nt G c = true) (hx : xOk nt G x = true) (hy : xOk nt G y = true)
    (e : evOp E call o.op tm h k kp = some r) : OpRes P B m h w (execOp a.eval o) k r := by
  rw [ho] at e
  obtain ⟨b, eb, e⟩ := ob_eq e
  have hvc := T.opnd H hG hc
  rw [bool?_eq eb] at hvc
  have hb := hvc.bool_inv
  simp only [execOp, ho]
  cases b with
  | true => exact ⟨_, _, _, _, _, e, Gr.refl h m, H, T.opnd H hG hx, Bel.refl B w, .inl (by simp [hb, asBool])⟩
  | false => exact ⟨_, _, _, _, _, e, Gr.refl h m, H, T.opnd H hG hy, Bel.refl B w, .inl (by simp [hb, asBool])⟩

theorem op_load (hE : E.Ok P G) (hG : ∀ i, i < G → B.old i) (H : HRel B m h w) (T : TRel nt m tm a) {t : TypeId} {x : Operand} {o : Oper} (ho : o.op = .load t x) (hx : xOk nt G x = true)
    (e : evOp E call o.op tm h k kp = some r) : OpRes P B m h w (execOp a.eval o) k r := by
  rw [ho] at e
  obtain ⟨i, ei, e⟩ := ob_eq e
  obtain ⟨p, ep, e⟩ := ob_eq e
  obtain ⟨ad, rfl, e1⟩ := ob_eq e
  replace e := e1
  clear e1
  have hi := hE.ti t i ei
  have hv := T.opnd H hG hx
  rw [ptr?_eq ep] at hv
  obtain ⟨hs, rf, hr, hv⟩ := hv.ptr_inv
  simp only [execOp, ho, hv]
  rcases ld_eq e with ⟨ha, vs, hl, hc, e⟩ | ⟨ha, h1, v, hc, e⟩
  · obtain ⟨vs', hL, hR⟩ := H.cells hr hc
    refine OpRes.mk e (Gr.refl h m) H (LRel.agg hL) (Bel.refl B w) ?_
    have hrun := Go.run_loadCells_list (P := P) w ⟨rf.b, rf.o + ad.off, none⟩ vs' hR
    rw [← hL.1, hl] at hrun
    simp [Instr.loadAt, Instr.sureAddr, loadVar, run_isAgg hi, ha, run_sizeOf hi, hrun]
  · obtain ⟨v', hw, hvr⟩ := H.cell hr hc
    refine OpRes.mk e (Gr.refl h m) H hvr (Bel.refl B w) ?_
    simp [Instr.loadAt, Instr.sureAddr, loadVar, run_isAgg hi, ha, hw]

theorem st_next {h h' : AHeap} {i o : Nat} {vs : List Value} (e : h.st i o vs = some h') : h'.next = h.next := by
  unfold AHeap.st at e
  split at e
  · split at e
    · simp only [Option.some.injEq] at e; subst e; rfl
    · cases e
  · cases e
theorem one?_rel {v v' : Value} (hv : VRel m v v') (h1 : AHeap.one? v = true) : v'.oneCell' = true := by
  cases hv <;> simp_all [AHeap.one?, Value.oneCell']
theorem all_one {l l' : List Value} (hl : LRel m l l') (h1 : l.all AHeap.one? = true) : ∀ v ∈ l', v.oneCell' = true := by
  intro v' hv
  obtain ⟨k, hk⟩ := List.getElem?_of_mem hv
  obtain ⟨v, a, b⟩ := hl.get' hk
  exact one?_rel b (List.all_eq_true.1 h1 v (List.mem_of_getElem? a))
/-- Some cells are written, side by side. -/
theorem HRel.st {i o : Nat} {vs vs' : List Value} {h' : AHeap} {rf : Ref} (H : HRel B m h w) (hi : m i = some rf) (e : h.st i o vs = some h') (hl : LRel m vs vs') :
    ∃ w', (storeCells ⟨rf.b, rf.o + o, none⟩ vs').run P w = .ok () w' ∧ HRel B m h' w' ∧ Bel B w w' := by
  have hobj := H.obj i rf hi
  unfold AHeap.st at e
  split at e
  · rename_i l ty opn hg
    rw [hg] at hobj
    obtain ⟨h1, h2, c, fr, h3, hcz, h4, h5⟩ := hobj
    obtain ⟨hB, hfz⟩ := h5 rfl
    split at e
    · rename_i hfit hone
      simp only [Option.some.injEq] at e
      subst e
      have hfit' : o + vs.length ≤ l.length := Nat.le_of_ble_eq_true hfit
      have hsz : rf.o + l.length ≤ c.size ∨ l.length = 0 := by
        rcases Nat.eq_zero_or_pos l.length with h0 | h0
        · exact .inr h0
        · left
          obtain ⟨v', hv', _⟩ := h4 (l.length - 1) _ (List.getElem?_eq_getElem (by omega))
          have := (Array.getElem?_eq_some_iff.1 hv').1
          omega
      by_cases h0 : vs.length = 0
      · have : vs = [] := List.eq_nil_of_length_eq_zero h0
        subst this
        have h0' : vs' = [] := List.eq_nil_of_length_eq_zero (by rw [← hl.1]; rfl)
        subst h0'
        refine ⟨w, by simp [storeCells], H.turn hi hB (by rw [hg]; simp) _ rfl (fun _ _ => rfl) ?_, Bel.refl B w⟩
        refine ⟨by rw [length_putL _ _ _ hfit']; exact h1, h2, c, fr, h3, hcz, fun k v hk => ?_, fun _ => ⟨hB, hfz⟩⟩
        rw [getElem?_putL _ _ _ _ hfit'] at hk
        refine h4 k v ?_
        split at hk
        · exact hk
        · split at hk
          · simp at hk
          · exact hk
      · obtain ⟨w', c', hr, hw, hs, hk⟩ := run_storeCells P rf.b (rf.o + o) ty fr vs' 0 w c h3 (by rw [← hl.1]; omega) hfz (all_one hl hone)
        refine ⟨w', hr, H.turn hi hB (by rw [hg]; simp) _ hw.size hw.other ?_, ⟨hw.os, hw.tape, hw.output, by rw [hw.size]; exact Nat.le_refl _, fun j hj => hw.other j (fun e => hB (by rw [← e]; exact hj))⟩⟩
        refine ⟨by rw [length_putL _ _ _ hfit']; exact h1, h2, c', fr, hw.here, by rw [hs]; exact hcz, fun q v hq => ?_, fun _ => ⟨hB, by rw [hs]; exact hfz⟩⟩
        rw [getElem?_putL _ _ _ _ hfit'] at hq
        rw [hk]
        simp only [Nat.add_zero]
        by_cases c1 : q < o
        · rw [if_pos c1] at hq
          rw [if_pos (by omega)]
          exact h4 q v hq
        · rw [if_neg c1] at hq
          rw [if_neg (by omega)]
          by_cases c2 : q < o + vs.length
          · rw [if_pos c2] at hq
            rw [if_pos (by rw [← hl.1]; omega), show rf.o + q - (rf.o + o) = q - o by omega]
            exact hl.get hq
          · rw [if_neg c2] at hq
            rw [if_neg (by rw [← hl.1]; omega)]
            exact h4 q v hq
    · cases e
  · cases e

theorem op_store (hE : E.Ok P G) (hG : ∀ i, i < G → B.old i) (H : HRel B m h w) (T : TRel nt m tm a) {t : TypeId} {x y : Operand} {o : Oper} (ho : o.op = .store t x y) (hx : xOk nt G x = true) (hy : xOk nt G y = true)
    (e : evOp E call o.op tm h k kp = some r) : OpRes P B m h w (execOp a.eval o) k r := by
  rw [ho] at e
  obtain ⟨i, ei, e⟩ := ob_eq e
  obtain ⟨p, ep, e⟩ := ob_eq e
  obtain ⟨ad, rfl, e1⟩ := ob_eq e
  replace e := e1
  clear e1
  have hi := hE.ti t i ei
  have hv := T.opnd H hG hx
  rw [ptr?_eq ep] at hv
  obtain ⟨hs, rf, hr, hv⟩ := hv.ptr_inv
  have hu := (T.opnd H hG hy).cells
  split at e
  · rename_i hn
    obtain ⟨h', es, e⟩ := ob_eq e
    obtain ⟨w', hrun, H', hb⟩ := H.st (P := P) hr es hu
    simp only [execOp, ho, hv]
    refine OpRes.mkU e (Gr.keep (st_next es)) H' hb ?_
    have hn' : (a.eval y).cells.size = i.lk.length := by
      have := Nat.eq_of_beq_eq_true hn
      rw [hu.1] at this
      simpa using this
    simp [Instr.storeAt, Instr.sureAddr, storeVar, run_sizeOf hi, hn', hrun]
  · cases e

theorem op_nilCheck (hG : ∀ i, i < G → B.old i) (H : HRel B m h w) (T : TRel nt m tm a) {x : Operand} {o : Oper} (ho : o.op = .nilCheck x) (hx : xOk nt G x = true)
    (e : evOp E call o.op tm h k kp = some r) : OpRes P B m h w (execOp a.eval o) k r := by
  rw [ho] at e
  have hv := T.opnd H hG hx
  simp only [execOp, ho]
  simp only [evOp, opNilCheck] at e
  split at e
  · rename_i p hp
    obtain ⟨ad, rfl, e1⟩ := ob_eq e
    replace e := e1
    clear e1
    rw [hp] at hv
    have hv0 := hv
    obtain ⟨hs, rf, hr, hv⟩ := hv.ptr_inv
    rw [hv] at hv0
    rw [hv]
    exact ⟨_, _, _, _, _, e, Gr.refl h m, H, hv0, Bel.refl B w, .inl rfl⟩
  · rename_i t v hp
    rw [hp] at hv
    obtain ⟨v', heq, hvv⟩ := hv.iface_inv
    rw [heq]
    exact ⟨_, _, _, _, _, e, Gr.refl h m, H, .iface t v v' hvv, Bel.refl B w, .inl rfl⟩
  · cases e

end
end Go.Amb
