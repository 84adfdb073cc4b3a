/- Part of the proof by the abstract machine: no claim of its own. -/
import Derived.Test.YtnfncnchbogncaaDoorA17
set_option linter.unusedSimpArgs false
set_option linter.unusedVariables false
set_option linter.unnecessarySimpa false
set_option linter.unusedSectionVars false
/- The abstract machine, part 18b: memory that is laid in advance: in the abstract heap it lies there before the program lays it. -/
set_option linter.unusedVariables false
namespace Go.Amb
open Go.RowKit

theorem VRel.back {m m' : MP} (hle : m.le m') (hz : m' lim = none) {v u : Value} (h1 : VRel m v u) : ∀ {v' : Value}, VRel m' v v' → VRel m v v' := by
  induction h1 with
  | bool b => intro v' h; cases h; exact .bool b
  | int k n => intro v' h; cases h; exact .int k n
  | string s => intro v' h; cases h; exact .string s
  | nilPtr => intro v' h; cases h; exact .nilPtr
  | ptr h => intro v' h'; cases h' with | ptr k => rw [hle _ _ h] at k; cases k; exact .ptr h
  | nilSlice => intro v' h; cases h; exact .nilSlice
  | slice h hl hc hy => intro v' h'; cases h' with
    | slice k kl kc ky => rw [hle _ _ h] at k; cases k; exact .slice h kl kc ky
    | slice0 b => rw [hle _ _ h] at hz; cases hz
  | nilMap => intro v' h; cases h; exact .nilMap
  | slice0 a' => intro v' h; cases h with
    | slice k kl kc ky => rw [hz] at k; cases k
    | slice0 b => exact .slice0 b
  | map h => intro v' h'; cases h' with | map k => rw [hle _ _ h] at k; cases k; exact .map h
  | nilFunc => intro v' h; cases h; exact .nilFunc
  | func f a a' c c' ha ra hc rc iha ihc =>
    intro v' h'
    cases h' with
    | func _ _ b _ d hb rb hd rd =>
      refine .func f a b c d hb (fun i x y e1 e2 => ?_) hd (fun i x y e1 e2 => ?_)
      · have hi : i < a'.size := by rw [← ha]; exact (Array.getElem?_eq_some_iff.1 e1).1
        exact iha i x _ e1 (Array.getElem?_eq_getElem hi) (rb i x y e1 e2)
      · have hi : i < c'.size := by rw [← hc]; exact (Array.getElem?_eq_some_iff.1 e1).1
        exact ihc i x _ e1 (Array.getElem?_eq_getElem hi) (rd i x y e1 e2)
  | nilIface => intro v' h; cases h; exact .nilIface
  | iface t v v' h ih => intro w h'; cases h' with | iface _ _ w k => exact .iface t v w (ih k)
  | agg a a' ha ra ih =>
    intro v' h'
    cases h' with
    | agg _ b hb rb =>
      refine .agg a b hb fun i x y e1 e2 => ?_
      have hi : i < a'.size := by rw [← ha]; exact (Array.getElem?_eq_some_iff.1 e1).1
      exact ih i x _ e1 (Array.getElem?_eq_getElem hi) (rb i x y e1 e2)
  | tuple a a' ha ra ih =>
    intro v' h'
    cases h' with
    | tuple _ b hb rb =>
      refine .tuple a b hb fun i x y e1 e2 => ?_
      have hi : i < a'.size := by rw [← ha]; exact (Array.getElem?_eq_some_iff.1 e1).1
      exact ih i x _ e1 (Array.getElem?_eq_getElem hi) (rb i x y e1 e2)

/-- Can a value be told, as things lie? -/
def Sc (m : MP) (v : Value) : Prop := ∃ u, VRel m v u
theorem LRel.sc {m : MP} {l l' : List Value} (h : LRel m l l') : ∀ v ∈ l, Sc m v := fun v hv => by
  obtain ⟨i, hi⟩ := List.mem_iff_getElem?.1 hv
  obtain ⟨u, _, hu⟩ := h.get hi
  exact ⟨u, hu⟩

theorem ORel.cells_back {m m' : MP} {B : Kept} {w : World} {r : Ref} {vs : List Value} {e : TypeId} {opn : Option Nat} {ro : Bool} (hle : m.le m') (hz : m' lim = none) (hs : ∀ v ∈ vs, Sc m v) (h : ORel m' B w r (.cells vs e opn ro)) : ORel m B w r (.cells vs e opn ro) := by
  obtain ⟨h1, h2, c, fr, h3, h4, h5, h6⟩ := h
  refine ⟨h1, h2, c, fr, h3, h4, fun k v hv => ?_, h6⟩
  obtain ⟨v', a, b⟩ := h5 k v hv
  obtain ⟨u, hu⟩ := hs v (List.mem_of_getElem? hv)
  exact ⟨v', a, hu.back hle hz b⟩
theorem ORel.back {m m' : MP} {B : Kept} {w w0 : World} {r : Ref} {o : AObj} (hle : m.le m') (hz : m' lim = none) (h0 : ORel m B w0 r o) (h : ORel m' B w r o) : ORel m B w r o := by
  cases o with
  | gone => trivial
  | iter s p => exact h
  | cells vs e opn ro =>
    refine ORel.cells_back hle hz (fun v hv => ?_) h
    obtain ⟨_, _, c, fr, _, _, h5, _⟩ := h0
    obtain ⟨i, hi⟩ := List.mem_iff_getElem?.1 hv
    obtain ⟨u, _, hu⟩ := h5 i v hi
    exact ⟨u, hu⟩
  | map kv =>
    obtain ⟨_, es0, c0, _, s0, r0⟩ := h0
    obtain ⟨hB, es, cl, h1, h2, h3⟩ := h
    refine ⟨hB, es, cl, h1, h2, fun k p e a b => ?_⟩
    have hk : k < es0.size := by rw [s0]; exact (List.getElem?_eq_some_iff.1 a).1
    obtain ⟨q1, q2⟩ := r0 k p _ a (Array.getElem?_eq_getElem hk)
    obtain ⟨p1, p2⟩ := h3 k p e a b
    exact ⟨q1.back hle hz p1, q2.back hle hz p2⟩

/-- What lay in the abstract heap is laid. -/
theorem HRel.realize {B : Kept} {m m' : MP} {h : AHeap} {w w' : World} (H : HRel B m h w) {n : Nat} {vs : List Value} {e : TypeId} (hn : m n = none) (hnz : ¬ lim = n) (hlt : n < h.next) (hg : h.get n = .cells vs e none false)
    (hs : ∀ v ∈ vs, Sc m v) (H' : HRel B m' (h.new (.cells vs e none false)) w') (g : Gr h m (h.new (.cells vs e none false)) m') {r : Ref} (hr : m' h.next = some r) :
    HRel B (m.put n r) h w' := by
  have hle : m.le m' := g.le
  have hle2 : m.le (m.put n r) := MP.le_put hn
  have hput : ∀ i, i ≠ n → (m.put n r) i = m i := fun i hi => by unfold MP.put; rw [if_neg hi]
  have hnew : ∀ i, i < h.next → (h.new (.cells vs e none false)).get i = h.get i := fun i hi => by rw [AHeap.get_new, if_neg (by omega)]
  have hself : (h.new (.cells vs e none false)).get h.next = .cells vs e none false := by rw [AHeap.get_new, if_pos rfl]
  have hto : ∀ i s, m i = some s → i < h.next ∧ m' i = some s := fun i s hi => ⟨(H.dom i s hi).1, hle _ _ hi⟩
  refine ⟨fun i s hi => ?_, fun i j a b hi hj hab hB h1 h2 => ?_, fun i s hi => ?_, H'.size, fun i hi hl => ?_, ⟨by unfold MP.put; rw [if_neg hnz]; exact H.zed.1, H.zed.2⟩, fun i s hi => ?_⟩
  · by_cases c : i = n
    · subst c
      rw [MP.put_same] at hi
      cases hi
      rw [hg]
      have := H'.obj _ _ hr
      rw [hself] at this
      exact (ORel.cells_back hle H'.zed.1 hs this).of_block hle2 rfl
    · rw [hput i c] at hi
      obtain ⟨q1, q2⟩ := hto i s hi
      have := H'.obj _ _ q2
      rw [hnew i q1] at this
      exact (ORel.back hle H'.zed.1 (H.obj i s hi) this).of_block hle2 rfl
  · by_cases ci : i = n
    · by_cases cj : j = n
      · rw [ci, cj]
      · subst ci
        rw [MP.put_same] at hi
        cases hi
        rw [hput j cj] at hj
        obtain ⟨q1, q2⟩ := hto j b hj
        have := H'.one h.next j r b hr q2 hab hB (by rw [hself]; exact AObj.noConfusion) (by rw [hnew j q1]; exact h2)
        omega
    · rw [hput i ci] at hi
      obtain ⟨q1, q2⟩ := hto i a hi
      by_cases cj : j = n
      · subst cj
        rw [MP.put_same] at hj
        cases hj
        have := H'.one i h.next a r q2 hr hab hB (by rw [hnew i q1]; exact h1) (by rw [hself]; exact AObj.noConfusion)
        omega
      · rw [hput j cj] at hj
        obtain ⟨q3, q4⟩ := hto j b hj
        exact H'.one i j a b q2 q4 hab hB (by rw [hnew i q1]; exact h1) (by rw [hnew j q3]; exact h2)
  · by_cases c : i = n
    · subst c
      rw [MP.put_same] at hi
      cases hi
      exact ⟨hlt, (H'.dom _ _ hr).2⟩
    · rw [hput i c] at hi
      obtain ⟨q1, q2⟩ := hto i s hi
      exact ⟨q1, (H'.dom _ _ q2).2⟩
  · obtain ⟨s, a, b, c⟩ := H.old i hi hl
    exact ⟨s, hle2 _ _ a, b, c⟩
  · by_cases c : i = n
    · subst c
      rw [MP.put_same] at hi
      cases hi
      exact H'.own _ _ hr
    · rw [hput i c] at hi
      exact H.own i s hi

/-- More in the abstract heap than the program has laid. -/
theorem HRel.ghost {B : Kept} {m : MP} {h : AHeap} {w : World} (H : HRel B m h w) (o : AObj) : HRel B m (h.new o) w := by
  have hnew : ∀ i, i < h.next → (h.new o).get i = h.get i := fun i hi => by rw [AHeap.get_new, if_neg (by omega)]
  refine ⟨fun i r hi => ?_, fun i j a b hi hj hab hB h1 h2 => ?_, fun i r hi => ?_, H.size, H.old, ⟨H.zed.1, by have := H.zed.2; simp; omega⟩, H.own⟩
  · rw [hnew i (H.dom i r hi).1]; exact H.obj i r hi
  · rw [hnew i (H.dom i a hi).1] at h1
    rw [hnew j (H.dom j b hj).1] at h2
    exact H.one i j a b hi hj hab hB h1 h2
  · have := H.dom i r hi
    exact ⟨by simp; omega, this.2⟩

section
variable {P : Program} {E : Env} {G nt : Nat} {B : Kept} {call : Call} {tm tm' : PT Value} {m : MP} {h : AHeap} {w : World} {a : Act}

def alV : Op → Nat → Value
  | .buildSlice _ n _, i => .slice (some ⟨i, 0, none⟩) n n
  | _, i => .pointer (some ⟨i, 0, none⟩)
theorem blkOf_alV {o : Oper} (ho : isAl o = true) (i : Nat) : blkOf (alV o.op i) = some i := by
  unfold isAl at ho
  split at ho <;> rename_i h <;> first | (rw [h]; rfl) | cases ho
theorem evOp_al {o : Oper} (ho : isAl o = true) (h : AHeap) (k : KV) (kp : KV) : evOp E call o.op tm h k kp = ob (alC E tm o.op) fun p => k (alV o.op h.next) (h.new (.cells p.1 p.2 none false)) := by
  unfold isAl at ho
  split at ho
  · rename_i t ht
    rw [ht]
    show ob (E.ti.get t) _ = ob (ob (E.ti.get t) _) _
    cases E.ti.get t <;> rfl
  · rename_i t x ht
    rw [ht]
    rfl
  · rename_i t n ps ht
    rw [ht]
    show opBuildSlice E tm h k t n ps = ob (alC E tm (.buildSlice t n ps)) _
    simp only [opBuildSlice, alC]
    cases E.ti.get t with
    | none => rfl
    | some i =>
      simp only [ob_some]
      cases i.d with
      | slice e =>
        simp only
        cases E.ti.get e with
        | none => rfl
        | some j =>
          simp only [ob_some]
          cases Nat.ble (n * j.lk.length) 16777216 with
          | false => rfl
          | true =>
            simp only
            cases fillL (fun q => some (q * j.lk.length, j.lk.length)) (repL j.zero.cells.toList n) (ps.toList.map fun p => (p.1, opnd tm p.2)) <;> rfl
      | _ => rfl
  · cases ho
theorem alC_congr {o : Oper} (ho : isAl o = true) (hx : ∀ x ∈ o.op.operands, opnd tm x = opnd tm' x) : alC E tm o.op = alC E tm' o.op := by
  unfold isAl at ho
  split at ho
  · rename_i t ht
    rw [ht]
    rfl
  · rename_i t x ht
    rw [ht] at hx ⊢
    simp only [alC]
    rw [hx x (by simp [Op.operands])]
  · rename_i t n ps ht
    rw [ht] at hx ⊢
    simp only [alC]
    have : (ps.toList.map fun p => (p.1, opnd tm p.2)) = ps.toList.map fun p => (p.1, opnd tm' p.2) := by
      refine List.map_congr_left fun p hp => ?_
      rw [hx p.2 (by simp only [Op.operands, List.mem_toArray, List.mem_map]; exact ⟨p, hp, rfl⟩)]
    rw [this]
  · cases ho
theorem alC_sc (hE : E.Ok P G) (hG : ∀ i, i < G → B.old i) (H : HRel B m h w) (T : TRel nt m tm a) {o : Oper} (ho : isAl o = true) (hx : o.op.operands.toList.all (xOk nt G) = true) {p : List Value × TypeId} (e : alC E tm o.op = some p) :
    ∀ v ∈ p.1, Sc m v := by
  unfold isAl at ho
  split at ho
  · rename_i t ht
    rw [ht] at e
    simp only [alC] at e
    obtain ⟨i, ei, e⟩ := ob_eq e
    cases e
    exact ((hE.ti t i ei).zeroL m).sc
  · rename_i t x ht
    rw [ht] at e hx
    simp only [alC] at e
    cases e
    exact (T.opnd H hG (List.all_eq_true.1 hx x (by simp [Op.operands]))).cells.sc
  · rename_i t n ps ht
    rw [ht] at e hx
    simp only [alC] at e
    obtain ⟨i, ei, e⟩ := ob_eq e
    split at e
    · rename_i el hd
      obtain ⟨j, ej, e⟩ := ob_eq e
      split at e
      · obtain ⟨l, el2, e⟩ := ob_eq e
        cases e
        have hpar : ∀ p ∈ ps.toList, VRel m (opnd tm p.2) (a.eval p.2) := fun p hp => T.opnd H hG (List.all_eq_true.1 hx p.2 (by simp only [Op.operands, List.mem_map]; exact ⟨p, hp, rfl⟩))
        have hz := ((hE.ti _ j ej).zeroL m).rep n
        obtain ⟨res', q1, q2⟩ := fill_run (m := m) (place' := fun j_1 => some (j_1 * j.lk.length, j.lk.length)) (fun j p hj => hj) el2 hpar (cells' := (repL j.zero.cells.toList n).toArray) (by simpa using hz)
        exact q2.sc
      · cases e
    · cases e
  · cases ho
theorem still_eq {op : Op} {v : Value} (e : still E tm op v h = true) : ∃ p n, alC E tm op = some p ∧ blkOf v = some n ∧ h.get n = .cells p.1 p.2 none false := by
  unfold still at e
  split at e
  · rename_i p n hp hn
    refine ⟨p, n, hp, hn, ?_⟩
    split at e
    · rename_i vs t hg
      rw [Bool.and_eq_true] at e
      rw [hg, eqL1_eq e.1, Nat.eq_of_beq_eq_true e.2]
    · cases e
  · cases e
end
end Go.Amb
