/- Part of the proof by the abstract machine: no claim of its own. -/
import Derived.Test.YtnfncnchbogncaaDoorA3
import Derived.Laws.Sem
import Derived.Laws.World
import Derived.Laws.Cells
set_option linter.unusedSimpArgs false
set_option linter.unusedVariables false
set_option linter.unnecessarySimpa false
set_option linter.unusedSectionVars false
/- The abstract machine, part 4: the heaps, side by side: a new object, a write, a move. -/
set_option linter.unusedVariables false
namespace Go.Amb
open Go.RowKit

theorem getElem?_putL (vs : List Value) : ∀ (n : Nat) (l : List Value) (k : Nat), n + vs.length ≤ l.length →
    (putL l n vs)[k]? = if k < n then l[k]? else if k < n + vs.length then vs[k - n]? else l[k]? := by
  intro n
  induction n with
  | zero =>
    intro l k h
    simp only [putL, Nat.zero_add, Nat.not_lt_zero, if_false, Nat.sub_zero]
    by_cases hk : k < vs.length
    · rw [List.getElem?_append_left hk, if_pos hk]
    · rw [List.getElem?_append_right (by omega), if_neg hk, List.getElem?_drop]
      congr 1
      omega
  | succ n ih =>
    intro l k h
    cases l with
    | nil => simp at h
    | cons x r =>
      simp only [putL]
      cases k with
      | zero => simp
      | succ k =>
        simp only [List.getElem?_cons_succ]
        rw [ih r k (by simp at h; omega)]
        by_cases h1 : k < n
        · rw [if_pos h1, if_pos (show k + 1 < n + 1 by omega)]
        · rw [if_neg h1, if_neg (show ¬ k + 1 < n + 1 by omega)]
          by_cases h2 : k < n + vs.length
          · rw [if_pos h2, if_pos (show k + 1 < n + 1 + vs.length by omega)]
            congr 1
            omega
          · rw [if_neg h2, if_neg (show ¬ k + 1 < n + 1 + vs.length by omega)]
theorem length_putL (vs : List Value) : ∀ (n : Nat) (l : List Value), n + vs.length ≤ l.length → (putL l n vs).length = l.length := by
  intro n
  induction n with
  | zero => intro l h; simp only [putL, List.length_append, List.length_drop]; omega
  | succ n ih =>
    intro l h
    cases l with
    | nil => simp at h
    | cons x r => simp only [putL, List.length_cons]; rw [ih r (by simp at h; omega)]

/-! ### The real side: some cells of one block are written -/
structure Wrote (w w' : World) (b : Nat) (c' : Array Value) (e : TypeId) (fr : Nat × Nat) : Prop where
  os : w'.os = w.os
  tape : w'.tape = w.tape
  output : w'.output = w.output
  size : w'.heap.size = w.heap.size
  here : w'.heap[b]? = some (.cells c' e fr)
  other : ∀ j, j ≠ b → w'.heap[j]? = w.heap[j]?
theorem heap_setCell_same (w : World) (b o : Nat) (v : Value) (c : Array Value) (e : TypeId) (fr : Nat × Nat) (h : w.heap[b]? = some (.cells c e fr)) :
    (w.setCell ⟨b, o, none⟩ v).heap[b]? = some (.cells (c.setIfInBounds o v) e fr) := by
  simp only [World.setCell, Array.getElem?_modify, if_true, h]
  simp
theorem heap_setCell_other (w : World) (b o : Nat) (v : Value) (j : Nat) (h : j ≠ b) : (w.setCell ⟨b, o, none⟩ v).heap[j]? = w.heap[j]? := by
  simp only [World.setCell, Array.getElem?_modify]
  rw [if_neg (by omega)]
theorem add_none (b o n : Nat) : (⟨b, o, none⟩ : Addr).add n = ⟨b, o + n, none⟩ := by
  unfold Addr.add
  split
  · subst_vars; rfl
  · rfl
theorem cell?_of_heap {w : World} {b : Nat} {c : Array Value} {e : TypeId} {fr : Nat × Nat} (h : w.heap[b]? = some (.cells c e fr)) (o : Nat) : w.cell? ⟨b, o, none⟩ = c[o]? := by
  simp [World.cell?, h]
theorem frozen?_of_heap {w : World} {b : Nat} {c : Array Value} {e : TypeId} {fr : Nat × Nat} (h : w.heap[b]? = some (.cells c e fr)) (o : Nat) (hn : ¬ (fr.1 ≤ o ∧ o < fr.2)) : w.frozen? ⟨b, o, none⟩ = false := by
  obtain ⟨lo, hi⟩ := fr
  simp only [World.frozen?, h]
  simp at hn ⊢
  omega
theorem run_storeCells (P : Program) (b o : Nat) (e : TypeId) (fr : Nat × Nat) : ∀ (vs : List Value) (i : Nat) (w : World) (c : Array Value), w.heap[b]? = some (.cells c e fr) → o + i + vs.length ≤ c.size →
    (∀ k, k < c.size → ¬ (fr.1 ≤ k ∧ k < fr.2)) → (∀ v ∈ vs, v.oneCell' = true) →
    ∃ w' c', (storeCells ⟨b, o, none⟩ vs i).run P w = .ok () w' ∧ Wrote w w' b c' e fr ∧ c'.size = c.size ∧
      ∀ k, c'[k]? = if k < o + i then c[k]? else if k < o + i + vs.length then vs[k - (o + i)]? else c[k]? := by
  intro vs
  induction vs with
  | nil =>
    intro i w c hc hl hf h1
    refine ⟨w, c, by simp [storeCells], ⟨rfl, rfl, rfl, rfl, hc, fun _ _ => rfl⟩, rfl, fun k => ?_⟩
    split
    · rfl
    · split
      · simp at *; omega
      · rfl
  | cons v r ih =>
    intro i w c hc hl hf h1
    simp only [List.length_cons] at hl
    have hlt : o + i < c.size := by omega
    have hcell : w.cell? ⟨b, o + i, none⟩ = some c[o + i] := by rw [cell?_of_heap hc]; exact Array.getElem?_eq_getElem hlt
    have hfz : w.frozen? ⟨b, o + i, none⟩ = false := frozen?_of_heap hc _ (hf _ hlt)
    have hc2 := heap_setCell_same w b (o + i) v c e fr hc
    obtain ⟨w', c', hr, hw, hs, hk⟩ := ih (i + 1) (w.setCell ⟨b, o + i, none⟩ v) (c.setIfInBounds (o + i) v) hc2 (by simp; omega) (by simpa using hf) (fun u hu => h1 u (List.mem_cons_of_mem _ hu))
    refine ⟨w', c', ?_, ⟨hw.os, hw.tape, hw.output, by rw [hw.size]; simp, hw.here, fun j hj => by rw [hw.other j hj, heap_setCell_other _ _ _ _ _ hj]⟩, by rw [hs]; simp, fun k => ?_⟩
    · simp only [storeCells, Sem.run_bind, add_none, run_store _ _ _ _ _ (h1 v List.mem_cons_self), hcell, hfz, Result.andThen, if_false, Bool.false_eq_true, hr]
    · rw [hk k]
      simp only [List.length_cons]
      by_cases h2 : k < o + i
      · rw [if_pos (by omega), if_pos h2, Array.getElem?_setIfInBounds_ne (by omega)]
      · rw [if_neg h2]
        by_cases h3 : k = o + i
        · subst h3
          rw [if_pos (by omega), if_pos (by omega), Array.getElem?_setIfInBounds_self]
          simp [hlt]
        · rw [if_neg (by omega)]
          by_cases h4 : k < o + (i + 1) + r.length
          · rw [if_pos h4, if_pos (by omega)]
            have : k - (o + i) = (k - (o + (i + 1))) + 1 := by omega
            rw [this, List.getElem?_cons_succ]
          · rw [if_neg h4, if_neg (by omega), Array.getElem?_setIfInBounds_ne (by omega)]

/-! ### Objects -/
theorem ORel.of_block {m m' : MP} {B : Kept} {w w' : World} {r : Ref} {o : AObj} (hm : m.le m') (hb : w'.heap[r.b]? = w.heap[r.b]?) (h : ORel m B w r o) : ORel m' B w' r o := by
  cases o with
  | gone => trivial
  | cells vs e opn ro =>
    obtain ⟨h1, h2, c, fr, h3, hz, h4, h5⟩ := h
    refine ⟨h1, h2, c, fr, by rw [hb]; exact h3, hz, fun k v hv => ?_, h5⟩
    obtain ⟨v', a, b⟩ := h4 k v hv
    exact ⟨v', a, b.mono hm⟩
  | map kv =>
    obtain ⟨h0, es, cl, h1, h2, h3⟩ := h
    exact ⟨h0, es, cl, by rw [hb]; exact h1, h2, fun k p e a b => ⟨(h3 k p e a b).1.mono hm, (h3 k p e a b).2.mono hm⟩⟩
  | iter s pos => exact ⟨h.1, h.2.1, by rw [hb]; exact h.2.2⟩

def MP.put (m : MP) (i : Nat) (r : Ref) : MP := fun j => if j = i then some r else m j
theorem MP.le_put {m : MP} {i : Nat} {r : Ref} (h : m i = none) : m.le (m.put i r) := by
  intro j s hj
  unfold MP.put
  rw [if_neg (by intro e; subst e; rw [h] at hj; cases hj)]
  exact hj
theorem MP.put_same (m : MP) (i : Nat) (r : Ref) : (m.put i r) i = some r := by simp [MP.put]

theorem HRel.fresh {B : Kept} {m : MP} {h : AHeap} {w : World} (H : HRel B m h w) {i : Nat} (hi : h.next ≤ i) : m i = none := by
  cases e : m i with
  | none => rfl
  | some r => have := (H.dom i r e).1; omega

/-- What an operation may do to where the objects lie: new ones alone are laid. -/
structure Gr (h : AHeap) (m : MP) (h' : AHeap) (m' : MP) : Prop where
  le : m.le m'
  next : h.next ≤ h'.next
  same : ∀ i, i < h.next → m' i = m i
theorem Gr.keep {h h' : AHeap} {m : MP} (hn : h'.next = h.next) : Gr h m h' m := ⟨MP.le_refl m, by omega, fun _ _ => rfl⟩
theorem Gr.refl (h : AHeap) (m : MP) : Gr h m h m := Gr.keep rfl
theorem Gr.trans {h h' h'' : AHeap} {m m' m'' : MP} (a : Gr h m h' m') (b : Gr h' m' h'' m'') : Gr h m h'' m'' :=
  ⟨MP.le_trans a.le b.le, Nat.le_trans a.next b.next, fun i hi => (b.same i (Nat.lt_of_lt_of_le hi a.next)).trans (a.same i hi)⟩
theorem Gr.put {h hh : AHeap} {m : MP} {r : Ref} {o : AObj} (hn : hh.next = h.next) (hf : m h.next = none) : Gr h m (hh.new o) (m.put h.next r) :=
  ⟨MP.le_put hf, by simp; omega, fun i hi => by unfold MP.put; rw [if_neg (by omega)]⟩

theorem heap_alloc_lt (w : World) (o : Obj) (k : Nat) (h : k < w.heap.size) : (w.alloc o).heap[k]? = w.heap[k]? := by
  show (w.heap.push o)[k]? = _
  rw [Array.getElem?_push, if_neg (by omega)]
theorem heap_alloc_self (w : World) (o : Obj) : (w.alloc o).heap[w.heap.size]? = some o := by
  show (w.heap.push o)[w.heap.size]? = _
  rw [Array.getElem?_push, if_pos rfl]

/-- A draw turns nothing. -/
theorem HRel.drew {B : Kept} {m : MP} {h : AHeap} {w : World} (H : HRel B m h w) : HRel B m h w.drew :=
  ⟨fun i r e => (H.obj i r e).of_block (MP.le_refl m) rfl, H.one, H.dom, H.size, H.old, H.zed, H.own⟩

/-- A new object. -/
theorem HRel.alloc {B : Kept} {m : MP} {h : AHeap} {w : World} (H : HRel B m h w) (o : AObj) (ob : Obj) (r : Ref) (hr : r.b = w.heap.size)
    (ho : ORel (m.put h.next r) B (w.alloc ob) r o) : HRel B (m.put h.next r) (h.new o) (w.alloc ob) ∧ Gr h m (h.new o) (m.put h.next r) := by
  have hf : m h.next = none := H.fresh (Nat.le_refl _)
  have hle : m.le (m.put h.next r) := MP.le_put hf
  refine ⟨⟨fun i s e => ?_, fun i j s t ei ej hb hB gi gj => ?_, fun i s e => ?_, ?_, fun i hi hl => ?_, ⟨by unfold MP.put; rw [if_neg (by have := H.zed.2; omega)]; exact H.zed.1, by have := H.zed.2; simp; omega⟩, fun i s e => ?_⟩, Gr.put rfl hf⟩
  · unfold MP.put at e
    split at e
    · rename_i hi
      simp only [Option.some.injEq] at e
      subst e hi
      rw [AHeap.get_new, if_pos rfl]
      exact ho
    · rename_i hi
      rw [AHeap.get_new, if_neg hi]
      exact (H.obj i s e).of_block hle (heap_alloc_lt _ _ _ (H.dom i s e).2)
  · unfold MP.put at ei ej
    split at ei
    · rename_i hi
      split at ej
      · rename_i hj; omega
      · simp only [Option.some.injEq] at ei
        subst ei
        have := (H.dom j t ej).2
        omega
    · rename_i hi
      split at ej
      · simp only [Option.some.injEq] at ej
        subst ej
        have := (H.dom i s ei).2
        omega
      · rename_i hj
        rw [AHeap.get_new, if_neg hi] at gi
        rw [AHeap.get_new, if_neg hj] at gj
        exact H.one i j s t ei ej hb hB gi gj
  · unfold MP.put at e
    split at e
    · rename_i hi
      simp only [Option.some.injEq] at e
      subst e hi
      exact ⟨by simp, by rw [hr]; simp⟩
    · have := H.dom i s e
      exact ⟨by simp; omega, by simp; omega⟩
  · intro k hk
    have := H.size k hk
    simp
    omega
  · obtain ⟨s, h1, h2⟩ := H.old i hi hl
    exact ⟨s, hle _ _ h1, h2⟩
  · unfold MP.put at e
    split at e
    · cases e
      intro hq
      exact Nat.lt_irrefl _ (hr ▸ H.size _ (.inr hq))
    · exact H.own i s e

theorem HRel.free {B : Kept} {m : MP} {h : AHeap} {w : World} (H : HRel B m h w) : ¬ B w.heap.size := fun hb => Nat.lt_irrefl _ (H.size _ hb)
theorem HRel.turn {B : Kept} {m : MP} {h : AHeap} {w w' : World} (H : HRel B m h w) {i : Nat} {r : Ref} (hi : m i = some r) (hB : ¬ B r.b) (hlive : h.get i ≠ .gone) (o : AObj)
    (hs : w'.heap.size = w.heap.size) (ho : ∀ j, j ≠ r.b → w'.heap[j]? = w.heap[j]?) (hr : ORel m B w' r o) : HRel B m (h.set i o) w' := by
  refine ⟨fun j s e => ?_, fun j k s t ej ek hb hB' gj gk => ?_, fun j s e => ?_, by rw [hs]; exact H.size, H.old, H.zed, H.own⟩
  · rw [AHeap.get_set]
    by_cases hj : j = i
    · subst hj
      rw [hi] at e
      simp only [Option.some.injEq] at e
      subst e
      rw [if_pos rfl]
      exact hr
    · rw [if_neg hj]
      by_cases hsb : s.b = r.b
      · by_cases hg : h.get j = .gone
        · rw [hg]; trivial
        · exact absurd (H.one j i s r e hi hsb (by rw [hsb]; exact hB) hg hlive) hj
      · exact (H.obj j s e).of_block (MP.le_refl m) (ho _ hsb)
  · have key : ∀ x, (h.set i o).get x ≠ .gone → h.get x ≠ .gone := by
      intro x hx
      rw [AHeap.get_set] at hx
      by_cases hxi : x = i
      · subst hxi; exact hlive
      · rw [if_neg hxi] at hx; exact hx
    exact H.one j k s t ej ek hb hB' (key j gj) (key k gk)
  · have := H.dom j s e
    exact ⟨this.1, by rw [hs]; exact this.2⟩

/-- A new object in a block that no other claims. -/
theorem HRel.alias {B : Kept} {m : MP} {h : AHeap} {w w' : World} (H : HRel B m h w) (r : Ref) (o : AObj) (hfree : ∀ j s, m j = some s → s.b = r.b → h.get j = .gone) (hB : ¬ B r.b) (hlt : r.b < w.heap.size)
    (hs : w'.heap.size = w.heap.size) (ho : ∀ j, j ≠ r.b → w'.heap[j]? = w.heap[j]?) (hr : ORel (m.put h.next r) B w' r o) : HRel B (m.put h.next r) (h.new o) w' ∧ Gr h m (h.new o) (m.put h.next r) := by
  have hf : m h.next = none := H.fresh (Nat.le_refl _)
  have hle : m.le (m.put h.next r) := MP.le_put hf
  refine ⟨⟨fun i s e => ?_, fun i j s t ei ej hb hB' gi gj => ?_, fun i s e => ?_, by rw [hs]; exact H.size, fun i hi hl => ?_, ⟨by unfold MP.put; rw [if_neg (by have := H.zed.2; omega)]; exact H.zed.1, by have := H.zed.2; simp; omega⟩, fun i s e => ?_⟩, Gr.put rfl hf⟩
  · unfold MP.put at e
    split at e
    · rename_i hi
      simp only [Option.some.injEq] at e
      subst e hi
      rw [AHeap.get_new, if_pos rfl]
      exact hr
    · rename_i hi
      rw [AHeap.get_new, if_neg hi]
      by_cases hsb : s.b = r.b
      · rw [hfree i s e hsb]; trivial
      · exact (H.obj i s e).of_block hle (ho _ hsb)
  · unfold MP.put at ei ej
    split at ei
    · rename_i hi
      split at ej
      · rename_i hj; omega
      · rename_i hj
        simp only [Option.some.injEq] at ei
        subst ei
        rw [AHeap.get_new, if_neg hj, hfree j t ej hb.symm] at gj
        exact absurd rfl gj
    · rename_i hi
      split at ej
      · simp only [Option.some.injEq] at ej
        subst ej
        rw [AHeap.get_new, if_neg hi, hfree i s ei hb] at gi
        exact absurd rfl gi
      · rename_i hj
        rw [AHeap.get_new, if_neg hi] at gi
        rw [AHeap.get_new, if_neg hj] at gj
        exact H.one i j s t ei ej hb hB' gi gj
  · unfold MP.put at e
    split at e
    · rename_i hi
      simp only [Option.some.injEq] at e
      subst e hi
      exact ⟨by simp, by rw [hs]; exact hlt⟩
    · have := H.dom i s e
      exact ⟨by simp; omega, by rw [hs]; omega⟩
  · obtain ⟨s, h1, h2⟩ := H.old i hi hl
    exact ⟨s, hle _ _ h1, h2⟩
  · unfold MP.put at e
    split at e
    · cases e
      exact fun hq => hB (.inr hq)
    · exact H.own i s e

/-- An object is given up. -/
theorem HRel.drop {B : Kept} {m : MP} {h : AHeap} {w : World} (H : HRel B m h w) (i : Nat) : HRel B m (h.set i .gone) w := by
  refine ⟨fun j s e => ?_, fun j k s t ej ek hb hB gj gk => ?_, fun j s e => H.dom j s e, H.size, H.old, H.zed, H.own⟩
  · rw [AHeap.get_set]
    by_cases hj : j = i
    · rw [if_pos hj]; trivial
    · rw [if_neg hj]; exact H.obj j s e
  · rw [AHeap.get_set] at gj gk
    by_cases hj : j = i
    · rw [if_pos hj] at gj; exact absurd rfl gj
    · by_cases hk : k = i
      · rw [if_pos hk] at gk; exact absurd rfl gk
      · rw [if_neg hj] at gj
        rw [if_neg hk] at gk
        exact H.one j k s t ej ek hb hB gj gk

end Go.Amb
