/- Part of the proof by the abstract machine: no claim of its own. -/
import Derived.Test.YtnfncnchbogncaaDoorA9
import Derived.Laws.Tables
import Derived.Laws.BytesString
set_option linter.unusedSimpArgs false
set_option linter.unusedVariables false
set_option linter.unnecessarySimpa false
set_option linter.unusedSectionVars false
/- The abstract machine, part 10: structs and rows that are built; conversions; assertions. -/
set_option linter.unusedVariables false
namespace Go.Amb
open Go.RowKit

section
variable {P : Program} {E : Env} {G nt : Nat} {B : Kept}
variable {m : MP} {h : AHeap} {w : World} {tm : PT Value} {a : Act} {call : Call} {k kp : KV} {r : Ans}

theorem getElem?_fold (off : Nat) : ∀ (l : List Value) (n : Nat) (cs : Array Value) (k : Nat), off + n + l.length ≤ cs.size →
    ((l.zipIdx n).foldl (fun cs p => cs.setIfInBounds (off + p.2) p.1) cs)[k]? = if k < off + n then cs[k]? else if k < off + n + l.length then l[k - (off + n)]? else cs[k]? := by
  intro l
  induction l with
  | nil =>
    intro n cs k hl
    simp only [List.zipIdx_nil, List.foldl_nil, List.length_nil, Nat.add_zero]
    by_cases h1 : k < off + n <;> simp [h1]
  | cons v l ih =>
    intro n cs k hl
    simp only [List.length_cons] at hl
    simp only [List.zipIdx_cons, List.foldl_cons]
    rw [ih (n + 1) _ k (by simp; omega)]
    by_cases h1 : k < off + n
    · rw [if_pos (by omega), if_pos h1, Array.getElem?_setIfInBounds_ne (by omega)]
    · rw [if_neg h1]
      by_cases h2 : k = off + n
      · subst h2
        rw [if_pos (by omega), if_pos (by simp), Array.getElem?_setIfInBounds_self]
        have : off + n < cs.size := by omega
        simp [this]
      · rw [if_neg (by omega)]
        by_cases h3 : k < off + n + (l.length + 1)
        · rw [if_pos (by omega), List.length_cons, if_pos h3]
          have : k - (off + n) = (k - (off + (n + 1))) + 1 := by omega
          rw [this, List.getElem?_cons_succ]
        · rw [if_neg (by omega), List.length_cons, if_neg h3, Array.getElem?_setIfInBounds_ne (by omega)]
theorem fold_putL (off : Nat) (v : Array Value) (cs : Array Value) (h : off + v.size ≤ cs.size) :
    (v.zipIdx.foldl (fun cs (c, j) => cs.setIfInBounds (off + j) c) cs).toList = putL cs.toList off v.toList := by
  rw [← Array.foldl_toList, Array.toList_zipIdx]
  apply List.ext_getElem?
  intro k
  rw [getElem?_putL _ _ _ _ (by simpa using h)]
  have := getElem?_fold off v.toList 0 cs k (by simpa using h)
  simp only [Nat.add_zero] at this
  rw [Array.getElem?_toList, Array.getElem?_toList]
  exact this

theorem LRel.putL {l l' vs vs' : List Value} (hl : LRel m l l') (hv : LRel m vs vs') (n : Nat) (h : n + vs.length ≤ l.length) : LRel m (putL l n vs) (Amb.putL l' n vs') := by
  have h' : n + vs'.length ≤ l'.length := by rw [← hv.1, ← hl.1]; exact h
  refine ⟨by rw [length_putL _ _ _ h, length_putL _ _ _ h', hl.1], fun i v v' a b => ?_⟩
  rw [getElem?_putL _ _ _ _ h] at a
  rw [getElem?_putL _ _ _ _ h', ← hv.1] at b
  by_cases c1 : i < n
  · rw [if_pos c1] at a b; exact hl.2 i v v' a b
  · rw [if_neg c1] at a b
    by_cases c2 : i < n + vs.length
    · rw [if_pos c2] at a b; exact hv.2 _ v v' a b
    · rw [if_neg c2] at a b; exact hl.2 i v v' a b

theorem fill_run {place place' : Nat → Option (Nat × Nat)} (hp : ∀ i p, place i = some p → place' i = some p) : ∀ {parts : List (Nat × Operand)} {cells res : List Value} {cells' : Array Value} {f g : Operand → Value},
    fillL place cells (parts.map fun p => (p.1, f p.2)) = some res → (∀ p ∈ parts, VRel m (f p.2) (g p.2)) → LRel m cells cells'.toList →
    ∃ res', Instr.fill place' cells' (parts.map fun p => (p.1, g p.2)) = some res' ∧ LRel m res res'.toList := by
  intro parts
  induction parts with
  | nil =>
    intro cells res cells' f g e _ hc
    simp only [List.map_nil, fillL, Option.some.injEq] at e
    subst e
    exact ⟨cells', rfl, hc⟩
  | cons p parts ih =>
    intro cells res cells' f g e hv hc
    simp only [List.map_cons, fillL] at e
    obtain ⟨q, eq, e⟩ := ob_eq e
    split at e
    · rename_i hcond
      rw [Bool.and_eq_true] at hcond
      have c1 := Nat.eq_of_beq_eq_true hcond.1
      have c2 := Nat.le_of_ble_eq_true hcond.2
      have hvp := (hv p List.mem_cons_self).cells
      have d1 : (g p.2).cells.size = q.2 := by rw [← c1]; simpa using hvp.1.symm
      have d2 : q.1 + (g p.2).cells.size ≤ cells'.size := by rw [d1]; have := hc.1; simp at this; omega
      have hput := hc.putL hvp q.1 (by omega)
      rw [← fold_putL q.1 (g p.2).cells cells' d2] at hput
      obtain ⟨res', h1, h2⟩ := ih e (fun x hx => hv x (List.mem_cons_of_mem _ hx)) hput
      refine ⟨res', ?_, h2⟩
      simp only [List.map_cons, Instr.fill, hp _ _ eq]
      rw [if_neg (by rw [d1] at d2; simp [d1]; omega)]
      exact h1
    · cases e

theorem places_some : ∀ (fs : List Field), (fs.all fun (f : Field) => (P.info? f.type).isSome) = true →
    ∃ places : List (Nat × Nat), fs.mapM (fun f => (P.info? f.type).map fun i => (f.offset, i.size)) = some places ∧ ∀ (k : Nat) (f : Field) (j : TypeInfo), fs[k]? = some f → P.info? f.type = some j → places[k]? = some (f.offset, j.size) := by
  intro fs
  induction fs with
  | nil => intro _; exact ⟨[], rfl, by simp⟩
  | cons f fs ih =>
    intro h
    simp only [List.all_cons, Bool.and_eq_true] at h
    obtain ⟨j, hj⟩ := Option.isSome_iff_exists.1 h.1
    obtain ⟨ps, h1, h2⟩ := ih h.2
    refine ⟨(f.offset, j.size) :: ps, by simp [List.mapM_cons, hj, h1], fun k g i hk hi => ?_⟩
    cases k with
    | zero => simp at hk; subst hk; rw [hj] at hi; cases hi; rfl
    | succ k => simp at hk; simpa using h2 k g i hk hi

theorem op_build (hE : E.Ok P G) (hG : ∀ i, i < G → B.old i) (H : HRel B m h w) (T : TRel nt m tm a) {t : TypeId} {ps : Array (Nat × Operand)} {o : Oper} (ho : o.op = .build t ps) (hx : ∀ p ∈ ps.toList, xOk nt G p.2 = true)
    (e : evOp E call o.op tm h k kp = some r) : OpRes P B m h w (execOp a.eval o) k r := by
  rw [ho] at e
  obtain ⟨v, ev, e⟩ := ob_eq e
  obtain ⟨i, ei, ev⟩ := ob_eq ev
  have hi := hE.ti t i ei
  have hu := run_under hi w
  simp only [execOp, ho]
  have hpar : ∀ p ∈ ps.toList, VRel m (opnd tm p.2) (a.eval p.2) := fun p hp => T.opnd H hG (hx p hp)
  have hz : LRel m i.zero.cells.toList i.zero.cells.toList := hi.zeroL m
  split at ev
  · rename_i fs hd
    obtain ⟨l, el, ev⟩ := ob_eq ev
    simp only [Option.some.injEq] at ev
    subst ev
    obtain ⟨places, p1, p2⟩ := places_some (P := P) fs.toList (hi.flds fs hd)
    obtain ⟨res', q1, q2⟩ := fill_run (m := m) (place' := fun j => places[j]?) (fun j p hj => by
      obtain ⟨f, ef, hj⟩ := ob_eq hj
      obtain ⟨g, eg, hj⟩ := ob_eq hj
      simp only [Option.some.injEq] at hj
      subst hj
      obtain ⟨ji, s1, s2, _⟩ := (hE.ti _ g eg).info
      rw [← s2]
      exact p2 j f ji ef s1) el hpar (cells' := i.zero.cells) hz
    have hrel : VRel m (.agg l.toArray) (.agg res') := by
      have := q2.agg
      simpa using this
    refine OpRes.mk e (Gr.refl h m) H hrel (Bel.refl B w) ?_
    rw [hd] at hu
    have hpl := run_places (P := P) w fs.toList places p1
    simp only [Instr.build, Sem.run_bind, run_zeroValue hi, Result.andThen_ok, hu, Array.mapM_eq_mapM_toList, Sem.run_map]
    have e1 : (fs.toList.mapM fun f => (do pure (f.offset, ← sizeOf f.type) : Sem (Nat × Nat))).run P w = .ok places w := by
      rw [← hpl]
      congr 1
    rw [e1]
    simp only [Result.andThen_ok, List.getElem?_toArray]
    have e2 : ((ps.map fun (i, x) => (i, a.eval x))).toList = ps.toList.map fun p => (p.1, a.eval p.2) := by simp
    rw [e2, q1]
    rfl
  · rename_i n el hd
    obtain ⟨g, eg, ev⟩ := ob_eq ev
    obtain ⟨l, el2, ev⟩ := ob_eq ev
    simp only [Option.some.injEq] at ev
    subst ev
    have hg := hE.ti _ g eg
    obtain ⟨res', q1, q2⟩ := fill_run (m := m) (place' := fun j => some (j * g.lk.length, g.lk.length)) (fun j p hj => hj) el2 hpar (cells' := i.zero.cells) hz
    have hrel : VRel m (.agg l.toArray) (.agg res') := by
      have := q2.agg
      simpa using this
    refine OpRes.mk e (Gr.refl h m) H hrel (Bel.refl B w) ?_
    rw [hd] at hu
    simp only [Instr.build, Sem.run_bind, run_zeroValue hi, Result.andThen_ok, hu, run_sizeOf hg]
    have e2 : ((ps.map fun (i, x) => (i, a.eval x))).toList = ps.toList.map fun p => (p.1, a.eval p.2) := by simp
    rw [e2, q1]
    rfl
  · cases ev

theorem op_buildSlice (hE : E.Ok P G) (hG : ∀ i, i < G → B.old i) (H : HRel B m h w) (T : TRel nt m tm a) {t : TypeId} {n : Nat} {ps : Array (Nat × Operand)} {o : Oper} (ho : o.op = .buildSlice t n ps) (hx : ∀ p ∈ ps.toList, xOk nt G p.2 = true)
    (e : evOp E call o.op tm h k kp = some r) : OpRes P B m h w (execOp a.eval o) k r := by
  rw [ho] at e
  obtain ⟨i, ei, e⟩ := ob_eq e
  have hi := hE.ti t i ei
  have hu := run_under hi w
  simp only [execOp, ho]
  have hpar : ∀ p ∈ ps.toList, VRel m (opnd tm p.2) (a.eval p.2) := fun p hp => T.opnd H hG (hx p hp)
  split at e
  · rename_i el hd
    obtain ⟨j, ej, e⟩ := ob_eq e
    have hj := hE.ti _ j ej
    split at e
    · rename_i hb
      have hb := Nat.le_of_ble_eq_true hb
      obtain ⟨l, el2, e⟩ := ob_eq e
      have hz := (hj.zeroL m).rep n
      obtain ⟨res', q1, q2⟩ := fill_run (m := m) (place' := fun j_1 => some (j_1 * j.lk.length, j.lk.length)) (fun j p hj => hj) el2 hpar (cells' := (repL j.zero.cells.toList n).toArray) (by simpa using hz)
      obtain ⟨m', h1, h2, h3⟩ := H.cellsNew l res' el q2
      refine OpRes.mk e h1 h3 (VRel.newSlice h2 rfl (Nat.le_refl n)) (below_alloc H _) ?_
      rw [hd] at hu
      have e2 : ((ps.map fun (i, x) => (i, a.eval x))).toList = ps.toList.map fun p => (p.1, a.eval p.2) := by simp
      have hzs := hj.zero.2
      have hrep := rep_eq j.zero.cells n
      rw [hzs] at hrep
      have hnb : ¬ n * j.lk.length > 2 ^ 24 := by omega
      simp only [Instr.buildSlice, Sem.run_bind, hu, Result.andThen_ok, run_sizeOf hj, hnb, if_false]
      by_cases h0 : n * j.lk.length = 0
      · have hnil : repL j.zero.cells.toList n = [] := List.eq_nil_of_length_eq_zero (by rw [length_repL]; simpa [hzs] using h0)
        rw [hnil] at q1
        have hr0 : ∀ f : Nat → Value, Array.map f (Array.range 0) = #[] := fun f => Array.ext' (by simp)
        simp only [h0, if_true, Sem.run_pure, Result.andThen_ok, Sem.run_bind]
        rw [hr0, e2, q1]
        simp [newRow]
      · simp only [h0, if_false, Sem.run_bind, run_zeroValue hj, Result.andThen_ok, Sem.run_pure, hzs]
        rw [hrep, e2, q1]
        simp [newRow]
    · cases e
  · cases e

end
end Go.Amb
