/- Part of the proof by the abstract machine: no claim of its own. -/
import Derived.Test.YtnfncnchbogncaaDoorUB
import Derived.Below
import Derived.Test.YtnfncnchbogncaaDoorRows
import Derived.ProofKit
import Derived.LaidMore
import Derived.OpenShut
import Derived.Stop.Joined
set_option linter.unusedSimpArgs false
set_option linter.unusedVariables false
set_option linter.unnecessarySimpa false
set_option linter.unusedSectionVars false
section
/- live, carried to the program; the call of UtfRange. -/
set_option linter.unusedVariables false
set_option maxRecDepth 100000
namespace Go.Amb
open Go.RowKit Go.Proofs

/-- The two tables lie in the program's memory. -/
structure WT (w : World) (e0 e1 : TypeId) : Prop where
  a : ∃ c fr, w.heap[0]? = some (.cells c e0 fr) ∧ ∀ (k : Nat) v, firstL[k]? = some v → c[k]? = some v
  b : ∃ c fr, w.heap[1]? = some (.cells c e1 fr) ∧ ∀ (k : Nat) v, accL[k]? = some v → c[k]? = some v

theorem hrelU {w : World} {e0 e1 : TypeId} (hW : WT w e0 e1) : ∃ m, HRel (Kept.upto w.heap.size) m (hU e0 e1) w := by
  obtain ⟨c0, fr0, w0, g0⟩ := hW.a
  obtain ⟨c1, fr1, w1, g1⟩ := hW.b
  have s0 : 0 < w.heap.size := (Array.getElem?_eq_some_iff.1 w0).1
  have s1 : 1 < w.heap.size := (Array.getElem?_eq_some_iff.1 w1).1
  have i0 : ∀ v ∈ firstL, ∃ n : Int, v = .int .u8 n := fun v hv => by
    obtain ⟨n, _, rfl⟩ := List.mem_map.1 hv
    exact ⟨_, rfl⟩
  have i1 : ∀ v ∈ accL, ∃ n : Int, v = .int .u8 n := fun v hv => by
    obtain ⟨n, _, rfl⟩ := List.mem_map.1 hv
    exact ⟨_, rfl⟩
  have hb : ∀ i, 2 ≤ i → (hU e0 e1).get i = .gone := fun i hi => by
    match i, hi with
    | i + 2, _ => rfl
  refine ⟨fun i => if i = 0 then some ⟨0, 0, firstL.length, c0.size, none⟩ else if i = 1 then some ⟨1, 0, accL.length, c1.size, none⟩ else m0 w i, ?_, ?_, ?_, fun k hk => Kept.upto_iff.1 hk, ?_, ⟨by rw [if_neg (by decide), if_neg (by decide)]; unfold m0; rw [if_neg (by omega)], by show lim < lim + 1; omega⟩, fun _ _ _ h => h⟩
  · intro i r e
    split at e
    · rename_i h
      subst h
      cases e
      exact ⟨rfl, rfl, c0, fr0, w0, rfl, fun k v hv => ⟨v, by rw [Nat.zero_add]; exact g0 k v hv, by obtain ⟨n, rfl⟩ := i0 v (List.mem_of_getElem? hv); exact .int _ _⟩, fun q => by cases q⟩
    · split at e
      · rename_i h
        subst h
        cases e
        exact ⟨rfl, rfl, c1, fr1, w1, rfl, fun k v hv => ⟨v, by rw [Nat.zero_add]; exact g1 k v hv, by obtain ⟨n, rfl⟩ := i1 v (List.mem_of_getElem? hv); exact .int _ _⟩, fun q => by cases q⟩
      · rw [hb i (by omega)]; trivial
  · intro i j r s hi hj hbb hB gi gj
    exfalso
    apply hB
    refine Kept.upto_iff.2 ?_
    split at hi
    · cases hi; exact s0
    · split at hi
      · cases hi; exact s1
      · unfold m0 at hi
        split at hi
        · rename_i h; cases hi; exact h.2
        · cases hi
  · intro i r hi
    split at hi
    · rename_i h; subst h; cases hi; exact ⟨by show 0 < lim + 1; omega, s0⟩
    · split at hi
      · rename_i h; subst h; cases hi; exact ⟨by show 1 < 4096 + 1; decide, s1⟩
      · unfold m0 at hi
        split at hi
        · rename_i h; cases hi; exact ⟨by show i < lim + 1; omega, h.2⟩
        · cases hi
  · intro i hi hl
    split
    · rename_i h; subst h; exact ⟨_, rfl, rfl, rfl⟩
    · split
      · rename_i h; subst h; exact ⟨_, rfl, rfl, rfl⟩
      · exact ⟨_, by unfold m0; rw [if_pos ⟨hl, hi⟩], rfl, rfl⟩

/-- A call that the machine answers with true. -/
theorem open_trueU {P : Program} {call : Call} {f : FuncId} {w : World} (hc : CallOk P (Kept.upto w.heap.size) call) {args args' : List Value} {h h' : AHeap} (e : call f args h = some (.ret (.bool true) h')) {m : MP} (H : HRel (Kept.upto w.heap.size) m h w) (L : LRel m args args') :
    Calls P f args'.toArray w fun e w' => e = .returned (.bool true) ∧ Below w.heap.size w w' := by
  refine Calls.mono (hc f args h _ e m w args' H L) fun e w' he => ?_
  cases e with
  | returned v' =>
    obtain ⟨m', _, _, hv, hb⟩ := he
    exact ⟨by rw [hv.bool_inv], hb.below⟩
  | _ => cases he

theorem live4 {w : World} {e0 e1 : TypeId} (hW : WT w e0 e1) : Calls Tryd.prog 4 #[] w fun e w' => e = .returned (.bool true) ∧ Below w.heap.size w w' := by
  obtain ⟨m, H⟩ := hrelU hW
  have hl := live01 e0 e1
  have hs : 1 < w.heap.size := by obtain ⟨c, fr, h, _⟩ := hW.b; exact (Array.getElem?_eq_some_iff.1 h).1
  cases hr : evF (U0 [(21, ())]) XL 1000 4 [] (hU e0 e1) with
  | none => rw [hr] at hl; cases hl
  | some r =>
    rw [hr] at hl
    unfold isTrue at hl
    split at hl
    · rename_i q hq
      cases hq
      exact open_trueU (evF_ok (U0_ok _) (fun i hi => by show i < w.heap.size; omega) XL_ok 1000) hr H (LRel.nil m)
    · cases hl

theorem X4_ok (B : Kept) (hG : ∀ i, i < 2 → B.old i) : CallOk Tryd.prog B X4 := by
  intro f args h r e m w args' H L
  unfold X4 at e
  split at e
  · rename_i q
    obtain ⟨rfl, rfl, hT⟩ := q
    cases e
    have : args' = [] := List.eq_nil_of_length_eq_zero (by rw [← L.1]; rfl)
    subst this
    obtain ⟨e0, e1, t0, t1⟩ := hT
    obtain ⟨r0, q0, b0, o0⟩ := H.old 0 (hG 0 (by omega)) (by decide)
    obtain ⟨r1, q1, b1, o1⟩ := H.old 1 (hG 1 (by omega)) (by decide)
    have i0 : ∀ v ∈ firstL, ∃ n : Int, v = .int .u8 n := fun v hv => by
      obtain ⟨n, _, rfl⟩ := List.mem_map.1 hv
      exact ⟨_, rfl⟩
    have i1 : ∀ v ∈ accL, ∃ n : Int, v = .int .u8 n := fun v hv => by
      obtain ⟨n, _, rfl⟩ := List.mem_map.1 hv
      exact ⟨_, rfl⟩
    have hW : WT w e0 e1 := by
      constructor
      · have := H.obj 0 r0 q0
        rw [t0] at this
        obtain ⟨_, _, c, fr, hw, _, hv, _⟩ := this
        rw [b0] at hw
        refine ⟨c, fr, hw, fun k v hk => ?_⟩
        obtain ⟨v', hc, hr⟩ := hv k v hk
        obtain ⟨n, rfl⟩ := i0 v (List.mem_of_getElem? hk)
        rw [o0, Nat.zero_add] at hc
        rw [hc, hr.int_inv]
      · have := H.obj 1 r1 q1
        rw [t1] at this
        obtain ⟨_, _, c, fr, hw, _, hv, _⟩ := this
        rw [b1] at hw
        refine ⟨c, fr, hw, fun k v hk => ?_⟩
        obtain ⟨v', hc, hr⟩ := hv k v hk
        obtain ⟨n, rfl⟩ := i1 v (List.mem_of_getElem? hk)
        rw [o1, Nat.zero_add] at hc
        rw [hc, hr.int_inv]
    refine Calls.mono (live4 hW) fun e w' ⟨he, hb⟩ => ?_
    subst he
    have H' : HRel B m h w' := by
      refine ⟨fun i r hi => ?_, H.one, fun i r hi => ?_, fun k hk => Nat.lt_of_lt_of_le (H.size k hk) hb.size, H.old, H.zed, H.own⟩
      · exact ORel.of_block (MP.le_refl m) (hb.block _ (H.dom i r hi).2) (H.obj i r hi)
      · have := H.dom i r hi
        exact ⟨this.1, Nat.lt_of_lt_of_le this.2 hb.size⟩
    exact ⟨m, ⟨MP.le_refl m, Nat.le_refl _, fun _ _ => rfl⟩, H', .bool true, Bel.of_below H.size hb⟩
  · cases e

/-- ████ THE WALK ████ -/
theorem utf_walk (s : ByteArray) (kk : Int) {w : World} {e0 e1 : TypeId} (hW : WT w e0 e1) : Calls Tryd.prog 3 #[.string s, .int .i64 kk] w fun e w' => e = .returned (.bool true) ∧ Below w.heap.size w w' := by
  obtain ⟨m, H⟩ := hrelU hW
  have hs : 1 < w.heap.size := by obtain ⟨c, fr, h, _⟩ := hW.b; exact (Array.getElem?_eq_some_iff.1 h).1
  obtain ⟨h', e⟩ := ev3 400 (by decide) s kk (h := hU e0 e1) ⟨e0, e1, rfl, rfl⟩ (by show 2 ≤ 4096 + 1; decide)
  exact open_trueU (evF_ok (G := 2) UE_ok (fun i hi => by show i < w.heap.size; omega) X4_ok 411 UE_its) e H (LRel.cons (.string s) (LRel.cons (.int _ _) (LRel.nil m)))
end Go.Amb
end

section
/- The two listed tables, read off the program's memory. -/
set_option linter.unusedVariables false
set_option maxRecDepth 1000000
namespace Go.Amb
open Go.Proofs

section
variable {H : Type} {enc : TypeId × Value → H} {P : Program} {w : World} {base : Nat} {spare : Nat → Bool} {held : Bool} {fuel : Nat} {t e : TypeId} {n : Nat} {cs : List Value} {L : List (DataW H)} {ps : List MemPlace}
def chk1 (L : List (DataW H)) (k : Nat) : Option Value := match L[k]? with
  | some (.lit (.int .u8 a)) => some (.int .u8 a)
  | _ => none
def chk2 (L : List (DataW H)) (k : Nat) : Option Value := match L[k / 2]? with
  | some (.agg [.lit (.int .u8 a), .lit (.int .u8 b)]) => some (.int .u8 (if k % 2 = 0 then a else b))
  | _ => none
theorem one_at {l : List Value} {k : Nat} {v : Value} (h : (l.drop k).take 1 = [v]) : l[k]? = some v := by
  have := congrArg (fun l => l[0]?) h
  simpa using this
theorem arr_u8 (ht : P.underlying t = some (.array n e)) (he : P.underlying e = some (.int .u8)) (hc : P.cellsOf e = 1) (h : DataW.trod enc P w base spare held fuel t cs = some (.agg L, ps)) : ∀ k v, chk1 L k = some v → cs[k]? = some v := by
  intro k v hk
  obtain ⟨xs, m, _, hx, _, hn, hel⟩ := DataW.trod_array ht h
  simp only [Prod.mk.injEq, DataW.agg.injEq] at hx
  obtain ⟨rfl, _⟩ := hx
  unfold chk1 at hk
  split at hk
  · rename_i a hg
    rw [List.getElem?_map, Option.map_eq_some_iff] at hg
    obtain ⟨y, hy, hya⟩ := hg
    have hlt : k < n := by rw [← hn]; exact (List.getElem?_eq_some_iff.1 hy).1
    have h1 := hel k hlt
    rw [hy, hc, Nat.mul_one] at h1
    obtain ⟨q, q1, q2, _⟩ := DataW.trod_int he h1
    rw [q2] at hya
    cases hk
    have : q = a := by simpa using hya
    subst this
    exact one_at q1
  · cases hk
theorem arr_two {fs : Array Field} {u : TypeId} (ht : P.underlying t = some (.array n e)) (he : P.underlying e = some (.struct fs)) (hc : P.cellsOf e = 2) (hu : P.underlying u = some (.int .u8)) (hcu : P.cellsOf u = 1) {f0 f1 : Field} (hf0 : fs[0]? = some f0) (hf1 : fs[1]? = some f1) (t0 : f0.type = u) (t1 : f1.type = u) (o0 : f0.offset = 0) (o1 : f1.offset = 1)
    (h : DataW.trod enc P w base spare held fuel t cs = some (.agg L, ps)) : ∀ k v, chk2 L k = some v → cs[k]? = some v := by
  intro k v hk
  obtain ⟨xs, m, _, hx, _, hn, hel⟩ := DataW.trod_array ht h
  simp only [Prod.mk.injEq, DataW.agg.injEq] at hx
  obtain ⟨rfl, _⟩ := hx
  unfold chk2 at hk
  split at hk
  · rename_i a b hg
    rw [List.getElem?_map, Option.map_eq_some_iff] at hg
    obtain ⟨y, hy, hya⟩ := hg
    have hlt : k / 2 < n := by rw [← hn]; exact (List.getElem?_eq_some_iff.1 hy).1
    have h1 := hel (k / 2) hlt
    rw [hy, hc] at h1
    obtain ⟨ys, m', _, hx2, _, hn2, hel2⟩ := DataW.trod_struct he h1
    rw [hx2] at hya
    simp only [DataW.agg.injEq] at hya
    have g0 := hel2 0 f0 hf0
    have g1 := hel2 1 f1 hf1
    rw [t0, hcu, o0] at g0
    rw [t1, hcu, o1] at g1
    match ys, hya, g0, g1 with
    | [], hya, _, _ => simp at hya
    | [_], hya, _, _ => simp at hya
    | _ :: _ :: _ :: _, hya, _, _ => simp at hya
    | [y0, y1], hya, g0, g1 =>
      simp only [List.map_cons, List.map_nil, List.cons.injEq, and_true] at hya
      obtain ⟨n0, q0, r0, _⟩ := DataW.trod_int hu (show _ = some y0 from g0)
      obtain ⟨n1, q1, r1, _⟩ := DataW.trod_int hu (show _ = some y1 from g1)
      rw [r0, r1] at hya
      simp only [DataW.lit.injEq, Lit.int.injEq, true_and] at hya
      obtain ⟨rfl, rfl⟩ := hya
      cases hk
      have p0 := one_at q0
      have p1 := one_at q1
      rw [List.getElem?_take, if_pos (by omega), List.getElem?_drop] at p0 p1
      by_cases hp : k % 2 = 0
      · rw [if_pos hp]
        have : k / 2 * 2 + 0 = k := by omega
        rw [this] at p0
        exact p0
      · rw [if_neg hp]
        have : k / 2 * 2 + 1 = k := by omega
        rw [this] at p1
        exact p1
  · cases hk
end

theorem gFirst : Tryd.prog.globalNamed "unicode/utf8.first" = some 0 := by kernel_rfl
theorem gAcc : Tryd.prog.globalNamed "unicode/utf8.acceptRanges" = some 1 := by kernel_rfl
theorem tFirst : (Tryd.prog.globals[0]?).map (·.type) = some 52 := by kernel_rfl
theorem tAcc : (Tryd.prog.globals[1]?).map (·.type) = some 55 := by kernel_rfl
def accD : List (DataW Unit) := match (YtnfncnchbogncaaDoor.Rows.laid_unicode_utf8_acceptRanges : DataW Unit) with
  | .agg l => l
  | _ => []
def firD : List (DataW Unit) := match Go.Pinned.utf8First with
  | .agg l => l
  | _ => []
theorem accD_eq : (YtnfncnchbogncaaDoor.Rows.laid_unicode_utf8_acceptRanges : DataW Unit) = .agg accD := by kernel_rfl
theorem firD_eq : YtnfncnchbogncaaDoor.Rows.laid_unicode_utf8_first = .agg firD := by kernel_rfl
theorem acc_all : (List.range 32).map (fun k => accL[k]?) = (List.range 32).map (fun k => chk2 accD k) := by kernel_rfl
theorem fir_all : (List.range 256).map (fun k => firstL[k]?) = (List.range 256).map (fun k => chk1 firD k) := by kernel_rfl
theorem range_at {α : Type} {N : Nat} {f g : Nat → α} (h : (List.range N).map f = (List.range N).map g) {k : Nat} (hk : k < N) : f k = g k := by
  have := congrArg (fun l => l[k]?) h
  simpa [hk] using this

theorem heap_of_var {P : Program} {w : World} {nm : String} {g : Nat} {cs : Array Value} (hg : P.globalNamed nm = some g) (h : w.var? P nm = some cs) : ∃ e fr, w.heap[g]? = some (.cells cs e fr) := by
  simp only [World.var?, hg, Option.bind_some] at h
  split at h
  · rename_i c e fr hh
    cases h
    exact ⟨_, _, hh⟩
  · cases h

theorem wt_of_laid {W : World} (h : laidMetH Tryd.prog YtnfncnchbogncaaDoor.Rows.utfRangeRow.laid W) : ∃ e0 e1, WT W e0 e1 := by
  rw [MakeChecks.laidMetH_plain _ _ _ (by kernel_rfl)] at h
  obtain ⟨ps, ⟨g0, t0, cs0, f0, p0, q0, hg0, ht0, hv0, hd0, ⟨g1, t1, cs1, f1, p1, q1, hg1, ht1, hv1, hd1, _, _⟩, _⟩, _, _⟩ := h
  obtain rfl := Option.some.inj (gAcc.symm.trans hg0)
  obtain rfl := Option.some.inj (gFirst.symm.trans hg1)
  obtain rfl := Option.some.inj (tAcc.symm.trans ht0)
  obtain rfl := Option.some.inj (tFirst.symm.trans ht1)
  rw [accD_eq] at hd0
  rw [firD_eq] at hd1
  have a0 := arr_two Tryd.underlying55 Tryd.underlying54 (by kernel_rfl) Tryd.underlying5 (by kernel_rfl) rfl rfl rfl rfl rfl rfl hd0
  have a1 := arr_u8 Tryd.underlying52 Tryd.underlying5 (by kernel_rfl) hd1
  obtain ⟨e1, fr1, h1⟩ := heap_of_var gAcc hv0
  obtain ⟨e0, fr0, h0⟩ := heap_of_var gFirst hv1
  refine ⟨e0, e1, ⟨cs1, fr0, h0, fun k v hk => ?_⟩, ⟨cs0, fr1, h1, fun k v hk => ?_⟩⟩
  · have hlt : k < 256 := (List.getElem?_eq_some_iff.1 hk).1
    have := a1 k v (by rw [← range_at fir_all hlt]; exact hk)
    simpa using this
  · have hlt : k < 32 := (List.getElem?_eq_some_iff.1 hk).1
    have := a0 k v (by rw [← range_at acc_all hlt]; exact hk)
    simpa using this
end Go.Amb
end
