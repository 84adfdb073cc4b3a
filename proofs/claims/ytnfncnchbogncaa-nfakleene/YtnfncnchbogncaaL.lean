/- Part of the proof by the abstract machine: no claim of its own. -/
import Derived.Test.YtnfncnchbogncaaA21
import Derived.Test.YtnfncnchbogncaaRA
import GoSem.ClaimChange
import Derived.ChangeArms
import Derived.Test.YtnfncnchbogncaaKA
import Derived.Test.YtnfncnchbogncaaA20
set_option linter.unusedSimpArgs false
set_option linter.unusedVariables false
set_option linter.unnecessarySimpa false
set_option linter.unusedSectionVars false
section
/- What comes in, laid in an abstract heap: windows that are only read. -/
set_option linter.unusedVariables false
namespace Go.Amb

/-- One more window. -/
theorem HRel.window {B : Nat} {m : MP} {h : AHeap} {w : World} (H : HRel B m h w) {b off : Nat} {c : Array Value} {e : TypeId} {fr : Nat × Nat} (hb : w.heap[b]? = some (.cells c e fr)) (hB : b < B) (us : List Value)
    (hu : ∀ (k : Nat) v, us[k]? = some v → ∃ v', c[off + k]? = some v' ∧ VRel m v v') :
    HRel B (m.put h.next ⟨b, off, us.length, c.size, none⟩) (h.new (.cells us e none true)) w := by
  have hf := H.fresh (Nat.le_refl h.next)
  have hle : m.le (m.put h.next ⟨b, off, us.length, c.size, none⟩) := MP.le_put hf
  have hcase : ∀ i r, (m.put h.next ⟨b, off, us.length, c.size, none⟩) i = some r → (i = h.next ∧ r = ⟨b, off, us.length, c.size, none⟩) ∨ (m i = some r ∧ i < h.next) := fun i r hi => by
    unfold MP.put at hi
    split at hi
    · rename_i q; cases hi; exact .inl ⟨q, rfl⟩
    · exact .inr ⟨hi, (H.dom i r hi).1⟩
  have hnew : ∀ i, i < h.next → (h.new (.cells us e none true)).get i = h.get i := fun i hi => by rw [AHeap.get_new, if_neg (by omega)]
  have hself : (h.new (.cells us e none true)).get h.next = .cells us e none true := by rw [AHeap.get_new, if_pos rfl]
  have hbw : b < w.heap.size := Nat.lt_of_lt_of_le hB H.size
  refine ⟨fun i r hi => ?_, fun i j r s hi hj hab hBr h1 h2 => ?_, fun i r hi => ?_, H.size, fun i hi hl => ?_, ⟨?_, by have := H.zed.2; simp; omega⟩⟩
  · rcases hcase i r hi with ⟨rfl, rfl⟩ | ⟨hi', hlt⟩
    · rw [hself]
      exact ⟨rfl, rfl, c, fr, hb, rfl, fun k v hv => by obtain ⟨v', a, q⟩ := hu k v hv; exact ⟨v', a, q.mono hle⟩, fun q => by cases q⟩
    · rw [hnew i hlt]
      exact ORel.of_block hle rfl (H.obj i r hi')
  · rcases hcase i r hi with ⟨rfl, rfl⟩ | ⟨hi', hlt⟩
    · exact absurd hBr (by simp; omega)
    · rcases hcase j s hj with ⟨rfl, rfl⟩ | ⟨hj', hlt'⟩
      · exact absurd hBr (by rw [hab]; simp; omega)
      · rw [hnew i hlt] at h1
        rw [hnew j hlt'] at h2
        exact H.one i j r s hi' hj' hab hBr h1 h2
  · rcases hcase i r hi with ⟨rfl, rfl⟩ | ⟨hi', hlt⟩
    · exact ⟨by simp, hbw⟩
    · have := H.dom i r hi'
      exact ⟨by simp; omega, this.2⟩
  · obtain ⟨r, a, q⟩ := H.old i hi hl
    exact ⟨r, hle _ _ a, q⟩
  · have := H.zed
    unfold MP.put
    rw [if_neg (by omega)]
    exact this.1

/-- The first heap, where the empty slices lie. -/
def hI : AHeap := { base := fun i => if i = lim then .cells [] 3 none true else .gone, upd := .leaf, next := lim + 1 }
theorem hI_lim : hI.get lim = .cells [] 3 none true := by
  show (if lim = lim then AObj.cells [] 3 none true else .gone) = _
  rw [if_pos rfl]
theorem hrelI (w : World) : HRel w.heap.size (m0 w) hI w := by
  have hg : ∀ i, i ≠ lim → hI.get i = .gone := fun i hi => by
    show (if i = lim then AObj.cells [] 3 none true else .gone) = _
    rw [if_neg hi]
  have hm : ∀ i r, m0 w i = some r → i ≠ lim := fun i r e => by
    unfold m0 at e
    split at e
    · rename_i h; omega
    · cases e
  refine ⟨fun i r e => by rw [hg i (hm i r e)]; trivial, fun i j r s a b _ _ h _ => absurd (hg i (hm i r a)) h, fun i r e => ?_, Nat.le_refl _, fun i hi hl => ?_, ⟨by unfold m0; rw [if_neg (by omega)], by show lim < lim + 1; omega⟩⟩
  · unfold m0 at e
    split at e
    · rename_i h; cases e; exact ⟨by show i < lim + 1; omega, h.2⟩
    · cases e
  · exact ⟨_, by unfold m0; rw [if_pos ⟨hl, hi⟩], rfl, rfl⟩

/-! ### Lists of options -/
theorem mapM_at {α β : Type} {f : α → Option β} : ∀ {l : List α} {r : List β}, l.mapM f = some r → r.length = l.length ∧ ∀ (i : Nat) x, l[i]? = some x → ∃ y, f x = some y ∧ r[i]? = some y := by
  intro l
  induction l with
  | nil => intro r h; simp at h; subst h; exact ⟨rfl, fun i x hx => by simp at hx⟩
  | cons a l ih =>
    intro r h
    rw [List.mapM_cons] at h
    cases ha : f a with
    | none => rw [ha] at h; cases h
    | some y =>
      rw [ha] at h
      cases hl : l.mapM f with
      | none => rw [hl] at h; cases h
      | some ys =>
        rw [hl] at h
        cases h
        obtain ⟨q1, q2⟩ := ih hl
        refine ⟨by simp [q1], fun i x hx => ?_⟩
        cases i with
        | zero => simp at hx; subst hx; exact ⟨y, ha, rfl⟩
        | succ i => exact q2 i x (by simpa using hx)
theorem mapM_range {β : Type} {f : Nat → Option β} {n : Nat} {r : List β} (h : (List.range n).mapM f = some r) : r.length = n ∧ ∀ i, i < n → ∃ y, f i = some y ∧ r[i]? = some y := by
  obtain ⟨a, b⟩ := mapM_at h
  refine ⟨by simpa using a, fun i hi => b i i (by simp [hi])⟩
/-- Cells read. -/
theorem cells?_at {w : World} {a : Addr} {n : Nat} {cs : List Value} (h : w.cells? 0 a n = some cs) : cs.length = n ∧ ∀ i, i < n → ∃ v, w.cell? (a.add i) = some v ∧ cs[i]? = some v := by
  unfold World.cells? at h
  rw [if_pos (Nat.zero_le _)] at h
  exact mapM_range h
theorem cell?_inv {w : World} {a : Addr} {v : Value} (h : w.cell? a = some v) : a.spot = none ∧ ∃ c e fr, w.heap[a.block]? = some (.cells c e fr) ∧ c[a.off]? = some v := by
  unfold World.cell? at h
  split at h
  · rename_i c e fr hb
    split at h
    · cases h
    · rename_i hs
      exact ⟨by simpa using hs, c, e, fr, hb, h⟩
  · cases h
end Go.Amb
end

section
/- A pattern that comes in, laid in an abstract heap. -/
set_option linter.unusedVariables false
namespace Go.Amb

/-- The types of a pattern. -/
structure PT64 (P : Program) (f0 f1 f2 : Field) : Prop where
  u64 : P.underlying 64 = some (.struct #[f0, f1, f2])
  t0 : f0.type = 3 ∧ f0.offset = 0
  t1 : f1.type = 52 ∧ f1.offset = 1
  t2 : f2.type = 62 ∧ f2.offset = 2
  u3 : P.underlying 3 = some (.int .i64)
  u52 : P.underlying 52 = some (.slice 3)
  u62 : P.underlying 62 = some (.slice 64)
  c3 : P.cellsOf 3 = 1
  c52 : P.cellsOf 52 = 1
  c62 : P.cellsOf 62 = 1
  c64 : P.cellsOf 64 = 3
structure Ld (w : World) (m : MP) (h : AHeap) : Prop where
  rel : HRel w.heap.size m h w
  zero : h.get lim = .cells [] 3 none true
structure Ext (m : MP) (h : AHeap) (m' : MP) (h' : AHeap) : Prop where
  le : m.le m'
  next : h.next ≤ h'.next
  keep : ∀ i, i < h.next → h'.get i = h.get i
theorem Ext.refl (m : MP) (h : AHeap) : Ext m h m h := ⟨MP.le_refl m, Nat.le_refl _, fun _ _ => rfl⟩
theorem Ext.trans {m m' m'' : MP} {h h' h'' : AHeap} (a : Ext m h m' h') (b : Ext m' h' m'' h'') : Ext m h m'' h'' :=
  ⟨MP.le_trans a.le b.le, Nat.le_trans a.next b.next, fun i hi => by rw [b.keep i (Nat.lt_of_lt_of_le hi a.next), a.keep i hi]⟩
theorem Ld.window {w : World} {m : MP} {h : AHeap} (L : Ld w m h) {b off : Nat} {c : Array Value} {e : TypeId} {fr : Nat × Nat} (hb : w.heap[b]? = some (.cells c e fr)) (us : List Value)
    (hu : ∀ (k : Nat) v, us[k]? = some v → ∃ v', c[off + k]? = some v' ∧ VRel m v v') :
    Ld w (m.put h.next ⟨b, off, us.length, c.size, none⟩) (h.new (.cells us e none true)) ∧ Ext m h (m.put h.next ⟨b, off, us.length, c.size, none⟩) (h.new (.cells us e none true)) := by
  have hB : b < w.heap.size := by
    rw [Array.getElem?_eq_some_iff] at hb
    exact hb.1
  have hz := L.rel.zed.2
  exact ⟨⟨L.rel.window hb hB us hu, by rw [AHeap.get_new, if_neg (by omega)]; exact L.zero⟩, ⟨MP.le_put (L.rel.fresh (Nat.le_refl _)), by simp, fun i hi => by rw [AHeap.get_new, if_neg (by omega)]⟩⟩

theorem IntsAt.mono {N N' : Nat} {h : AHeap} {v : Value} {l : List Int} (hN : N ≤ N') (H : IntsAt N h v l) : IntsAt N' h v l := by
  rcases H with H | ⟨i, c, e, h1, h2, h3, h4, h5⟩
  · exact .inl H
  · exact .inr ⟨i, c, e, h1, h2, h3, by omega, h5⟩
mutual
theorem PatAt.mono {N N' : Nat} {h : AHeap} (hN : N ≤ N') : ∀ (p : Pat) {a b c : Value}, PatAt N h p a b c → PatAt N' h p a b c
  | .mk op cs ks, a, b, c, H => by
    unfold PatAt at H ⊢
    obtain ⟨h1, h2, h3⟩ := H
    refine ⟨h1, h2.mono hN, ?_⟩
    rcases h3 with h3 | ⟨i, cap, e, vs, g1, g2, g3, g4, g5, g6⟩
    · exact .inl h3
    · exact .inr ⟨i, cap, e, vs, g1, g2, g3, by omega, g5, PatsAt.mono hN ks g6⟩
theorem PatsAt.mono {N N' : Nat} {h : AHeap} (hN : N ≤ N') : ∀ (ps : List Pat) {vs : List Value}, PatsAt N h ps vs → PatsAt N' h ps vs
  | [], vs, H => by unfold PatsAt at H ⊢; exact H
  | p :: ps, vs, H => by
    unfold PatsAt at H ⊢
    obtain ⟨a, b, c, rest, h1, h2, h3⟩ := H
    exact ⟨a, b, c, rest, h1, PatAt.mono hN p h2, PatsAt.mono hN ps h3⟩
end
theorem PatsAt.snoc {N : Nat} {h : AHeap} {p : Pat} {a b c : Value} (hp : PatAt N h p a b c) : ∀ {ps : List Pat} {vs : List Value}, PatsAt N h ps vs → PatsAt N h (ps ++ [p]) (vs ++ [a, b, c]) := by
  intro ps
  induction ps with
  | nil => intro vs H; unfold PatsAt at H; subst H; unfold PatsAt; exact ⟨a, b, c, [], rfl, hp, by unfold PatsAt; rfl⟩
  | cons q ps ih =>
    intro vs H
    unfold PatsAt at H
    obtain ⟨a', b', c', rest, rfl, h2, h3⟩ := H
    exact (by
      show PatsAt N h (q :: (ps ++ [p])) _
      unfold PatsAt
      exact ⟨a', b', c', rest ++ [a, b, c], rfl, h2, ih h3⟩)
theorem listOf {Q : Nat → Int → Prop} : ∀ (n : Nat), (∀ i, i < n → ∃ x, Q i x) → ∃ l : List Int, l.length = n ∧ ∀ i x, l[i]? = some x → Q i x := by
  intro n
  induction n with
  | zero => intro _; exact ⟨[], rfl, fun i x h => by simp at h⟩
  | succ n ih =>
    intro h
    obtain ⟨l, h1, h2⟩ := ih fun i hi => h i (by omega)
    obtain ⟨x, hx⟩ := h n (by omega)
    refine ⟨l ++ [x], by simp [h1], fun i y hy => ?_⟩
    by_cases hi : i < l.length
    · rw [List.getElem?_append_left hi] at hy; exact h2 i y hy
    · rw [List.getElem?_append_right (by omega)] at hy
      have : i = n := by
        have := (List.getElem?_eq_some_iff.1 hy).1
        simp at this
        omega
      subst this
      rw [h1] at hy
      simp at hy
      subst hy
      exact hx

section
variable {H : Type} {enc : TypeId × Value → H} {P : Program} {w : World} {f0 f1 f2 : Field}

theorem add_off (a : Addr) (n : Nat) : (a.add n).off = a.off + n := by
  unfold Addr.add
  split
  · rename_i h; simp [h]
  · rfl
theorem add_block (a : Addr) (n : Nat) : (a.add n).block = a.block := by
  unfold Addr.add
  split <;> rfl
/-- One element's cells. -/
theorem elem_cells {a : Addr} {e : TypeId} {n i : Nat} {y : Option (DataW H × List MemPlace)} {z : DataW H × List MemPlace} (h : (w.cells? 0 (a.add (i * P.cellsOf e)) (P.cellsOf e)).bind (DataW.trod enc P w 0 (fun _ => true) true n e) = y) (hy : y = some z) :
    ∃ cs, w.cells? 0 (a.add (i * P.cellsOf e)) (P.cellsOf e) = some cs ∧ DataW.trod enc P w 0 (fun _ => true) true n e cs = some z := by
  subst hy
  exact Option.bind_eq_some_iff.1 h
/-- A slice's block. -/
theorem slice_block {a : Addr} {e : TypeId} {n len cap : Nat} {elems rest : List (DataW H × List MemPlace)} (hc : 0 < cap) (hle : len ≤ cap) (hpos : 0 < P.cellsOf e)
    (he : elems.length = len) (h1 : ∀ i, i < len → (w.cells? 0 (a.add (i * P.cellsOf e)) (P.cellsOf e)).bind (DataW.trod enc P w 0 (fun _ => true) true n e) = elems[i]?)
    (hr : rest.length = cap - len) (h2 : ∀ j, j < cap - len → (w.cells? 0 (a.add ((len + j) * P.cellsOf e)) (P.cellsOf e)).bind (DataW.trod enc P w 0 (fun _ => true) true n e) = rest[j]?) :
    a.spot = none ∧ ∃ c t fr, w.heap[a.block]? = some (.cells c t fr) := by
  have key : ∀ (i : Nat) cs, i = 0 → w.cells? 0 (a.add (i * P.cellsOf e)) (P.cellsOf e) = some cs → a.spot = none ∧ ∃ c t fr, w.heap[a.block]? = some (.cells c t fr) := fun i cs hi h => by
    subst hi
    obtain ⟨v, hv, _⟩ := (cells?_at h).2 0 hpos
    obtain ⟨q1, c, t, fr, q2, _⟩ := cell?_inv hv
    have e0 : (a.add (0 * P.cellsOf e)).add 0 = a := by rw [Nat.zero_mul]; rfl
    rw [e0] at q1 q2
    exact ⟨q1, c, t, fr, q2⟩
  by_cases hl : 0 < len
  · obtain ⟨cs, h, _⟩ := elem_cells (h1 0 hl) (List.getElem?_eq_getElem (by omega))
    exact key _ _ rfl h
  · obtain ⟨cs, h, _⟩ := elem_cells (h2 0 (by omega)) (List.getElem?_eq_getElem (by omega))
    exact key _ _ (by omega) h

theorem load_ints (T : PT64 P f0 f1 f2) {fuel : Nat} {v : Value} {x : DataW H × List MemPlace} (h : DataW.trod enc P w 0 (fun _ => true) true fuel 52 [v] = some x) {m : MP} {h0 : AHeap} (L : Ld w m h0) :
    ∃ m' h' v' l, Ext m h0 m' h' ∧ Ld w m' h' ∧ IntsAt h'.next h' v' l ∧ VRel m' v' v := by
  rcases DataW.trod_slice T.u52 h with ⟨e1, _⟩ | ⟨a, len, cap, elems, rest, n, _, e1, _, _, hlc, hcm, he, h1, h2, _⟩
  · cases e1
    exact ⟨m, h0, nilS, [], Ext.refl _ _, L, .inl ⟨rfl, rfl⟩, .nilSlice⟩
  · cases e1
    obtain ⟨hr, h2⟩ := h2 rfl
    have hz := L.rel.zed.2
    by_cases hc : cap = 0
    · subst hc
      have : len = 0 := by omega
      subst this
      exact ⟨m, h0, S0 lim 0 0 0, [], Ext.refl _ _, L, .inr ⟨lim, 0, 3, rfl, Nat.le_refl _, Nat.zero_le _, hz, L.zero⟩, .slice0 a⟩
    · obtain ⟨hs, c, t, fr, hb⟩ := slice_block (by omega) hlc (by rw [T.c3]; decide) he h1 hr h2
      obtain ⟨b, off, sp⟩ := a
      simp only at hs hb
      subst hs
      have hq : ∀ i, i < len → ∃ x : Int, c[off + i]? = some (I x) := fun i hi => by
        obtain ⟨cs, q1, q2⟩ := elem_cells (h1 i hi) (List.getElem?_eq_getElem (by omega))
        obtain ⟨k, rfl, _⟩ := DataW.trod_int T.u3 q2
        obtain ⟨v, hv, hv'⟩ := (cells?_at q1).2 0 (by rw [T.c3]; decide)
        simp at hv'
        subst hv'
        obtain ⟨_, c', t', fr', q4, q5⟩ := cell?_inv hv
        rw [add_block, add_block] at q4
        rw [add_off, add_off, T.c3, Nat.mul_one] at q5
        have e3 : w.heap[b]? = some (.cells c' t' fr') := q4
        rw [hb] at e3
        cases e3
        exact ⟨k, q5⟩
      obtain ⟨l, hl, hl2⟩ := listOf len hq
      obtain ⟨L', E⟩ := L.window hb (off := off) (ints l) (fun k v hv => by
        unfold ints at hv
        rw [List.getElem?_map] at hv
        cases hx : l[k]? with
        | none => rw [hx] at hv; cases hv
        | some x => rw [hx] at hv; cases hv; exact ⟨_, hl2 k x hx, .int _ _⟩)
      refine ⟨_, _, S0 h0.next 0 l.length cap, l, E, L', .inr ⟨h0.next, cap, t, rfl, by omega, ?_, by simp, by rw [AHeap.get_new, if_pos rfl]⟩, ?_⟩
      · unfold maxLen at hcm; unfold top; omega
      · rw [hl]
        exact .slice (MP.put_same _ _ _) hlc (.inl rfl) (.inl (by simp))
end
end Go.Amb
end

section
/- A pattern that comes in, whole. -/
set_option linter.unusedVariables false
namespace Go.Amb

section
variable {H : Type} {enc : TypeId × Value → H} {P : Program} {w : World} {f0 f1 f2 : Field}

def PatGoes (enc : TypeId × Value → H) (P : Program) (w : World) (n : Nat) : Prop := ∀ {cs : List Value} {x : DataW H × List MemPlace}, DataW.trod enc P w 0 (fun _ => true) true n 64 cs = some x → ∀ {m : MP} {h0 : AHeap}, Ld w m h0 →
  ∃ m' h' p a b c, Ext m h0 m' h' ∧ Ld w m' h' ∧ PatAt h'.next h' p a b c ∧ LRel m' [a, b, c] cs

theorem load_kids (T : PT64 P f0 f1 f2) {n : Nat} (ih : PatGoes enc P w n) {b off : Nat} {c : Array Value} {t : TypeId} {fr : Nat × Nat} (hb : w.heap[b]? = some (.cells c t fr)) {len : Nat} {elems : List (DataW H × List MemPlace)} (he : elems.length = len)
    (h1 : ∀ i, i < len → (w.cells? 0 (Addr.add ⟨b, off, none⟩ (i * P.cellsOf 64)) (P.cellsOf 64)).bind (DataW.trod enc P w 0 (fun _ => true) true n 64) = elems[i]?) {m : MP} {h0 : AHeap} (L : Ld w m h0) :
    ∀ k, k ≤ len → ∃ m' h' ps vs, Ext m h0 m' h' ∧ Ld w m' h' ∧ PatsAt h'.next h' ps vs ∧ ps.length = k ∧ ∀ (j : Nat) v, vs[j]? = some v → ∃ v', c[off + j]? = some v' ∧ VRel m' v v' := by
  intro k
  induction k with
  | zero => intro _; exact ⟨m, h0, [], [], Ext.refl _ _, L, by unfold PatsAt; rfl, rfl, fun j v hv => by simp at hv⟩
  | succ k ihk =>
    intro hk
    obtain ⟨m1, h1', ps, vs, E1, L1, A1, l1, r1⟩ := ihk (by omega)
    obtain ⟨cs, q1, q2⟩ := elem_cells (h1 k (by omega)) (List.getElem?_eq_getElem (by omega))
    obtain ⟨m2, h2, p, x, y, z, E2, L2, A2, R2⟩ := ih q2 L1
    have A1' := (A1.frame (fun i hi => E2.keep i hi) ps).mono E2.next ps
    have hl := A1.length
    have hc := cells?_at q1
    rw [T.c64] at hc
    refine ⟨m2, h2, ps ++ [p], vs ++ [x, y, z], E1.trans E2, L2, PatsAt.snoc A2 A1', by simp [l1], fun j v hv => ?_⟩
    by_cases hj : j < vs.length
    · rw [List.getElem?_append_left hj] at hv
      obtain ⟨v', a, q⟩ := r1 j v hv
      exact ⟨v', a, q.mono E2.le⟩
    · rw [List.getElem?_append_right (by omega)] at hv
      obtain ⟨v', a, q⟩ := R2.get hv
      have h3 : j - vs.length < 3 := by
        have := (List.getElem?_eq_some_iff.1 hv).1
        simpa using this
      obtain ⟨u, e1, e2⟩ := hc.2 _ h3
      rw [a] at e2
      cases e2
      obtain ⟨_, c', t', fr', g1, g2⟩ := cell?_inv e1
      rw [add_block, add_block] at g1
      rw [add_off, add_off, show off + k * 3 + (j - vs.length) = off + j by omega] at g2
      have g3 : w.heap[b]? = some (.cells c' t' fr') := g1
      rw [hb] at g3
      cases g3
      exact ⟨v', g2, q⟩

theorem load_pat (T : PT64 P f0 f1 f2) : ∀ n, PatGoes enc P w n := by
  intro n
  induction n using Nat.strongRecOn with
  | ind n ih =>
    intro cs x h m h0 L
    obtain ⟨xs, n1, rfl, _, hlen, hxs, hf⟩ := DataW.trod_struct T.u64 h
    rw [T.c64] at hlen
    match cs, hlen with
    | [v0, v1, v2], _ =>
      have g0 := hf 0 f0 rfl
      have g1 := hf 1 f1 rfl
      have g2 := hf 2 f2 rfl
      have hx : xs.length = 3 := hxs
      rw [T.t0.1, T.t0.2, T.c3, List.getElem?_eq_getElem (by omega)] at g0
      rw [T.t1.1, T.t1.2, T.c52, List.getElem?_eq_getElem (by omega)] at g1
      rw [T.t2.1, T.t2.2, T.c62, List.getElem?_eq_getElem (by omega)] at g2
      obtain ⟨op, e0, _⟩ := DataW.trod_int T.u3 g0
      have e0' : v0 = I op := by simpa using e0
      subst e0'
      obtain ⟨m1, h1, b1, l, E1, L1, A1, R1⟩ := load_ints T g1 L
      rcases DataW.trod_slice T.u62 g2 with ⟨e2, _⟩ | ⟨a, len, cap, elems, rest, n2, hn2, e2, _, _, hlc, hcm, he, k1, k2, _⟩
      · have e2' : v2 = nilS := by simpa using e2
        subst e2'
        refine ⟨m1, h1, .mk op l [], I op, b1, nilS, E1, L1, ?_, .cons (.int _ _) (.cons R1 (.cons .nilSlice (.nil _)))⟩
        unfold PatAt
        exact ⟨rfl, A1, .inl ⟨rfl, rfl⟩⟩
      · have e2' : v2 = .slice (some a) len cap := by simpa using e2
        subst e2'
        obtain ⟨hr, k2⟩ := k2 rfl
        have hz := L1.rel.zed.2
        by_cases hc : cap = 0
        · subst hc
          have : len = 0 := by omega
          subst this
          refine ⟨m1, h1, .mk op l [], I op, b1, S0 lim 0 0 0, E1, L1, ?_, .cons (.int _ _) (.cons R1 (.cons (.slice0 a) (.nil _)))⟩
          unfold PatAt
          exact ⟨rfl, A1, .inr ⟨lim, 0, 3, [], rfl, Nat.le_refl _, Nat.zero_le _, hz, L1.zero, by unfold PatsAt; rfl⟩⟩
        · obtain ⟨hs, c, t, fr, hb⟩ := slice_block (by omega) hlc (by rw [T.c64]; decide) he k1 hr k2
          obtain ⟨b, off, sp⟩ := a
          simp only at hs hb
          subst hs
          obtain ⟨m2, h2, ps, vs, E2, L2, A2, l2, r2⟩ := load_kids T (ih n2 (by omega)) hb he k1 L1 len (Nat.le_refl _)
          obtain ⟨L3, E3⟩ := L2.window hb (off := off) vs r2
          have A2' := (A2.frame (fun i hi => E3.keep i hi) ps).mono E3.next ps
          have E23 := E2.trans E3
          have A1' := (A1.frame (fun i hi => E23.keep i hi)).mono E23.next
          refine ⟨_, _, .mk op l ps, I op, b1, S0 h2.next 0 len cap, E1.trans E23, L3, ?_, .cons (.int _ _) (.cons (R1.mono E23.le) (.cons (.slice (MP.put_same _ _ _) hlc (.inl rfl) (.inl (by simp))) (.nil _)))⟩
          unfold PatAt
          refine ⟨rfl, A1', .inr ⟨h2.next, cap, t, vs, by rw [l2], by omega, ?_, by simp, by rw [AHeap.get_new, if_pos rfl], A2'⟩⟩
          unfold maxLen at hcm; unfold top; omega
end
end Go.Amb
end

section
/- The law NfaOf: what the machine says carried to the program. -/
set_option linter.unusedVariables false
set_option maxRecDepth 100000
namespace Go.Amb
open Go.RowKit
open Go.Proofs

theorem HRel.under {B : Nat} {m : MP} {h : AHeap} {w w' : World} (H : HRel B m h w) (hb : Below w.heap.size w w') : HRel B m h w' := by
  refine ⟨fun i r hi => ?_, H.one, fun i r hi => ?_, Nat.le_trans H.size hb.size, H.old, H.zed⟩
  · exact ORel.of_block (MP.le_refl m) (hb.block _ (H.dom i r hi).2) (H.obj i r hi)
  · have := H.dom i r hi
    exact ⟨this.1, Nat.lt_of_lt_of_le this.2 hb.size⟩
/-- A call that the machine answers with true. -/
theorem open_true {P : Program} {call : Call} {f : FuncId} (hc : ∀ B, CallOk P B call) {args args' : List Value} {h h' : AHeap} (e : call f args h = some (.ret (.bool true) h')) {m : MP} {w : World} (H : HRel w.heap.size m h w) (L : LRel m args args') :
    Calls P f args'.toArray w fun e w' => e = .returned (.bool true) ∧ Below w.heap.size w w' := by
  refine Calls.mono (hc w.heap.size f args h _ e m w args' H L) fun e w' he => ?_
  cases e with
  | returned v' =>
    obtain ⟨m', _, _, hv, hb⟩ := he
    exact ⟨by rw [hv.bool_inv], hb⟩
  | _ => cases he
/-- One law's witness, told. -/
def X33 : Call := fun f args h => if f = 33 ∧ args = [] then some (.ret (.bool true) h) else none
theorem X33_ok {P : Program} (hl : ∀ w, Calls P 33 #[] w fun e w' => e = .returned (.bool true) ∧ Below w.heap.size w w') (B : Nat) : CallOk P B X33 := by
  intro f args h r e m w args' H L
  unfold X33 at e
  split at e
  · rename_i q
    obtain ⟨rfl, rfl⟩ := q
    cases e
    have : args' = [] := List.eq_nil_of_length_eq_zero (by rw [← L.1]; rfl)
    subst this
    refine Calls.mono (hl w) fun e w' ⟨he, hb⟩ => ?_
    subst he
    exact ⟨m, ⟨MP.le_refl m, Nat.le_refl _, fun _ _ => rfl⟩, H.under hb, .bool true, hb.mono H.size⟩
  · cases e

theorem pt64 : PT64 Try.prog ⟨"Op", 3, 0, false, "", "", 0⟩ ⟨"Classes", 52, 1, false, "", "", 8⟩ ⟨"Kids", 62, 2, false, "", "", 32⟩ :=
  ⟨by kernel_rfl, ⟨rfl, rfl⟩, ⟨rfl, rfl⟩, ⟨rfl, rfl⟩, by kernel_rfl, by kernel_rfl, by kernel_rfl, by kernel_rfl, by kernel_rfl, by kernel_rfl, by kernel_rfl⟩

end Go.Amb
end
