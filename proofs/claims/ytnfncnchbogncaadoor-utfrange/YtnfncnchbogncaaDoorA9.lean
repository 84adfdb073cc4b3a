/- Part of the proof by the abstract machine: no claim of its own. -/
import Derived.Test.YtnfncnchbogncaaDoorA8
import Derived.IntWalk
set_option linter.unusedSimpArgs false
set_option linter.unusedVariables false
set_option linter.unnecessarySimpa false
set_option linter.unusedSectionVars false
/- The abstract machine, part 9: slices made and cut, conversions, maps, ranges, structs that are built. -/
set_option linter.unusedVariables false
namespace Go.Amb
open Go.RowKit

section
variable {P : Program} {E : Env} {G nt : Nat} {B : Kept}
variable {m : MP} {h : AHeap} {w : World} {tm : PT Value} {a : Act} {call : Call} {k kp : KV} {r : Ans}

theorem length_repL (z : List Value) : ∀ n, (repL z n).length = n * z.length := by
  intro n
  induction n with
  | zero => simp [repL]
  | succ n ih => simp [repL, ih, Nat.add_mul]; omega
theorem getElem?_repL (z : List Value) : ∀ n i, i < n * z.length → (repL z n)[i]? = z[i % z.length]? := by
  intro n
  induction n with
  | zero => intro i h; simp at h
  | succ n ih =>
    intro i h
    simp only [repL]
    have hz : 0 < z.length := by
      rcases Nat.eq_zero_or_pos z.length with h0 | h0
      · rw [h0] at h; simp at h
      · exact h0
    by_cases hi : i < z.length
    · rw [List.getElem?_append_left hi, Nat.mod_eq_of_lt hi]
    · rw [List.getElem?_append_right (by omega), ih _ (by rw [Nat.add_mul] at h; omega)]
      congr 1
      conv => rhs; rw [show i = (i - z.length) + z.length by omega, Nat.add_mod_right]
theorem rep_eq (z : Array Value) (n : Nat) : (Array.range (n * z.size)).map (fun i => z[i % z.size]!) = (repL z.toList n).toArray := by
  apply Array.ext'
  apply List.ext_getElem?
  intro i
  simp only [Array.toList_map, Array.toList_range, List.getElem?_map]
  by_cases hi : i < n * z.size
  · rw [getElem?_repL _ _ _ (by simpa using hi)]
    have hz : 0 < z.size := by
      rcases Nat.eq_zero_or_pos z.size with h0 | h0
      · rw [h0] at hi; simp at hi
      · exact h0
    have hm := Nat.mod_lt i hz
    rw [List.getElem?_range hi]
    simp [hm]
  · have h1 : (repL z.toList n)[i]? = none := List.getElem?_eq_none (by rw [length_repL]; simpa using hi)
    rw [h1]
    simp
    omega
theorem LRel.rep {z : List Value} (hz : LRel m z z) : ∀ n, LRel m (repL z n) (repL z n) := by
  intro n
  induction n with
  | zero => exact LRel.nil m
  | succ n ih => exact hz.append ih

theorem VRel.newSlice {i n c : Nat} {rf : Ref} (h : m i = some rf) (ho : rf.o = 0) (hn : n ≤ c) : VRel m (.slice (some ⟨i, 0, none⟩) n c) (.slice (some ⟨rf.b, 0, none⟩) n c) :=
  .slice h hn (.inl rfl) (.inl (by simp [ho]))

theorem op_makeSlice (hE : E.Ok P G) (hG : ∀ i, i < G → B.old i) (H : HRel B m h w) (T : TRel nt m tm a) {t : TypeId} {x y : Operand} {o : Oper} (ho : o.op = .makeSlice t x y) (hx : xOk nt G x = true) (hy : xOk nt G y = true)
    (e : evOp E call o.op tm h k kp = some r) : OpRes P B m h w (execOp a.eval o) k r := by
  rw [ho] at e
  obtain ⟨i, ei, e⟩ := ob_eq e
  have hi := hE.ti t i ei
  have hu := run_under hi w
  split at e
  · rename_i el hd
    obtain ⟨j, ej, e⟩ := ob_eq e
    obtain ⟨n, en, e⟩ := ob_eq e
    obtain ⟨c, ec, e⟩ := ob_eq e
    have hj := hE.ti _ j ej
    have hn := T.opnd H hG hx
    rw [num?_eq en] at hn
    have hn := hn.int_inv
    have hc := T.opnd H hG hy
    rw [num?_eq ec] at hc
    have hc := hc.int_inv
    split at e
    · rename_i hcond
      simp only [Bool.and_eq_true, decide_eq_true_eq] at hcond
      obtain ⟨⟨⟨c1, c2⟩, c3⟩, c4⟩ := hcond
      simp only [AHeap.most] at c3 c4
      obtain ⟨m', h1, h2, h3⟩ := H.cellsNew (repL j.zero.cells.toList c.2.toNat) (repL j.zero.cells.toList c.2.toNat).toArray el (by simpa using (hj.zeroL m).rep _)
      simp only [execOp, ho]
      refine OpRes.mk e h1 h3 (VRel.newSlice h2 rfl (by omega)) (below_alloc H _) ?_
      rw [hd] at hu
      obtain ⟨ji, q1, q2, q3, q4⟩ := hj.info
      have w1 : IntKind.i64.wrap n.2 = n.2 := IntWalk.i64_in _ (by omega)
      have w2 : IntKind.i64.wrap c.2 = c.2 := IntWalk.i64_in _ (by omega)
      have t1 : ¬ c.2 < 0 := by omega
      have t2 : ¬ ((ji.bytes : Int) * c.2 > 2 ^ 48) := by
        rw [q3, Int.mul_comm]
        omega
      have t3 : ¬ n.2 < 0 := by omega
      have t4 : ¬ n.2 > c.2 := by omega
      have hz := hj.zero.2
      have hrep := rep_eq j.zero.cells c.2.toNat
      rw [hz] at hrep
      simp only [Instr.makeSlice, Sem.run_bind, hu, Result.andThen_ok, hn, hc, asInt, asIntOf, Sem.run_pure, run_typeInfo q1, w1, w2]
      simp only [t1, t2, t3, t4, decide_false, Bool.or_false, Bool.false_eq_true, if_false, run_askRoom, Result.andThen_ok, run_sizeOf hj, Sem.run_bind]
      by_cases h0 : c.2.toNat * j.lk.length = 0
      · have hnil : repL j.zero.cells.toList c.2.toNat = [] := List.eq_nil_of_length_eq_zero (by rw [length_repL]; simpa [hz] using h0)
        have hr0 : Array.map (fun x => (default : Value)) (Array.range 0) = #[] := Array.ext' (by simp)
        simp [h0, newRow, hnil, hr0]
      · simp only [h0, if_false, Sem.run_bind, run_zeroValue hj, Result.andThen_ok, Sem.run_pure, newRow, run_newObj, hz]
        rw [hrep]
        simp
    · cases e
  · cases e

/-! Cutting. -/
structure ORelV (m : MP) (x x' : Option Value) : Prop where
  some_ : ∀ v, x = some v → ∃ v', x' = some v' ∧ VRel m v v'
  none_ : x = none → x' = none
theorem bound_run {v v' : Value} (hv : VRel m v v') {c y : Nat} (e : (ob (num? v) fun p => bnd? p.2 c) = some y) {c' : Nat} (hc : c ≤ c') (code : BoundsCode) :
    (Instr.sliceBound v' c' code).run P w = .ok y w ∧ y ≤ c := by
  obtain ⟨n, en, e⟩ := ob_eq e
  rw [num?_eq en] at hv
  have hv := hv.int_inv
  subst hv
  obtain ⟨b0, b1, b2⟩ := bnd?_eq e
  subst b2
  have : n.2 ≤ (c' : Int) := by omega
  exact ⟨by simp [Instr.sliceBound, asIntOf, b0, this], by omega⟩
theorem ORelV.cases {x x' : Option Value} (h : ORelV m x x') : (x = none ∧ x' = none) ∨ ∃ v v', x = some v ∧ x' = some v' ∧ VRel m v v' := by
  cases x with
  | none => exact .inl ⟨rfl, h.none_ rfl⟩
  | some v => obtain ⟨v', h1, h2⟩ := h.some_ v rfl; exact .inr ⟨v, v', rfl, h1, h2⟩
def lowS (code : BoundsCode) (h : Nat) (lo : Option Value) : Sem Nat := match lo with
  | some v => Instr.sliceBound v h code
  | none => pure 0
theorem lowS_run {lo lo' : Option Value} {hh l : Nat} (e3 : (match lo with | none => some 0 | some v => ob (num? v) fun p => bnd? p.2 hh) = some l) (hlo : ORelV m lo lo') (code : BoundsCode) :
    (lowS code hh lo').run P w = .ok l w ∧ l ≤ hh := by
  rcases hlo.cases with ⟨rfl, rfl⟩ | ⟨v, v', rfl, rfl, hv⟩
  · simp only [Option.some.injEq] at e3
    subst e3
    exact ⟨rfl, by omega⟩
  · exact bound_run hv e3 (Nat.le_refl _) code
theorem sliceBounds_eq (isS : Bool) (len cap : Nat) (lo hi mx : Option Value) (hx : ∀ v, ¬ (hi = none ∧ mx = some v)) : Instr.sliceBounds isS len cap lo hi mx = (do
    let m ← match mx with
      | some v => Instr.sliceBound v cap (if isS then .slice3Acap else .slice3Alen)
      | none => pure cap
    let h ← match hi, mx with
      | some v, some _ => Instr.sliceBound v m .slice3B
      | some v, none => Instr.sliceBound v m (if isS then .sliceAcap else .sliceAlen)
      | none, none => pure len
      | none, some _ => pure 0
    let l ← lowS (if mx.isSome then .slice3C else .sliceB) h lo
    pure (l, h, m)) := by
  unfold Instr.sliceBounds lowS
  cases lo <;> cases hi <;> cases mx <;> first | rfl | exact absurd ⟨rfl, rfl⟩ (hx _)
theorem slcB_run {isS : Bool} {len cap cap' : Nat} (hcap : cap ≤ cap') (hlen : len ≤ cap) {lo hi mx lo' hi' mx' : Option Value} {b : Nat × Nat × Nat} (e : slcB len cap lo hi mx = some b)
    (hlo : ORelV m lo lo') (hhi : ORelV m hi hi') (hmx : ORelV m mx mx') :
    ∃ c', (Instr.sliceBounds isS len cap' lo' hi' mx').run P w = .ok (b.1, b.2.1, c') w ∧ b.1 ≤ b.2.1 ∧ b.2.1 ≤ b.2.2 ∧ b.2.2 ≤ cap ∧ ((c' = cap' ∧ b.2.2 = cap) ∨ c' = b.2.2) := by
  obtain ⟨q, e1, e⟩ := ob_eq e
  obtain ⟨hh, e2, e⟩ := ob_eq e
  obtain ⟨l, e3, e⟩ := ob_eq e
  simp only [Option.some.injEq] at e
  subst e
  have low := fun code => lowS_run (P := P) (w := w) e3 hlo code
  have low1 := fun code => (low code).1
  have low2 := (low .index).2
  have hx : ∀ v, ¬ (hi' = none ∧ mx' = some v) := by
    rintro v ⟨rfl, rfl⟩
    rcases hmx.cases with ⟨_, h⟩ | ⟨mv, mv', rfl, _, _⟩
    · cases h
    · rcases hhi.cases with ⟨rfl, _⟩ | ⟨_, _, _, h, _⟩
      · cases e2
      · cases h
  rw [sliceBounds_eq _ _ _ _ _ _ hx]
  rcases hmx.cases with ⟨rfl, rfl⟩ | ⟨mv, mv', rfl, rfl, hm⟩
  · simp only [Option.some.injEq] at e1
    subst e1
    rcases hhi.cases with ⟨rfl, rfl⟩ | ⟨v, v', rfl, rfl, hv⟩
    · simp only [Option.some.injEq] at e2
      subst e2
      exact ⟨cap', by simp [low1], low2, hlen, Nat.le_refl _, .inl ⟨rfl, rfl⟩⟩
    · have hb := fun code => bound_run (P := P) (w := w) hv e2 hcap code
      have hb1 := fun code => (hb code).1
      exact ⟨cap', by simp [low1, hb1], low2, (hb .index).2, Nat.le_refl _, .inl ⟨rfl, rfl⟩⟩
  · have hbm := fun code => bound_run (P := P) (w := w) hm e1 hcap code
    have hbm1 := fun code => (hbm code).1
    rcases hhi.cases with ⟨rfl, rfl⟩ | ⟨v, v', rfl, rfl, hv⟩
    · cases e2
    · have hb := fun code => bound_run (P := P) (w := w) hv e2 (Nat.le_refl _) code
      have hb1 := fun code => (hb code).1
      exact ⟨q, by simp [low1, hb1, hbm1], low2, (hb .index).2, (hbm .index).2, .inr rfl⟩

theorem ORelV.map (hG : ∀ i, i < G → B.old i) (H : HRel B m h w) (T : TRel nt m tm a) {x : Option Operand} (hx : ∀ y, x = some y → xOk nt G y = true) : ORelV m (x.map (opnd tm)) (x.map a.eval) := by
  cases x with
  | none => exact ⟨fun v h => by simp at h, fun _ => rfl⟩
  | some x => exact ⟨fun v h => by simp at h; subst h; exact ⟨_, rfl, T.opnd H hG (hx x rfl)⟩, fun h => by simp at h⟩

end
end Go.Amb
