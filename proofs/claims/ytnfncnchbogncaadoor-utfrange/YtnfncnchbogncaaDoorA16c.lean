/- Part of the proof by the abstract machine: no claim of its own. -/
import Derived.Test.YtnfncnchbogncaaDoorA16b
set_option linter.unusedSimpArgs false
set_option linter.unusedVariables false
set_option linter.unnecessarySimpa false
set_option linter.unusedSectionVars false
/- The abstract machine, part 16c: code. -/
set_option linter.unusedVariables false
namespace Go.Amb
open Go.RowKit

theorem itsOk_leaf {P : Program} {E : Env} (h : E.it = .leaf) : ItsOk P E := fun f it e => by rw [h] at e; cases e

section
variable {P : Program} {E : Env} {G nt : Nat} {call : Call}

theorem fnOf_eq {v : Value} {p : FuncId × List Value} (e : fnOf v = some p) : ∃ c, v = .func (.func p.1) #[] c ∧ c.toList = p.2 := by
  unfold fnOf at e
  split at e
  · rename_i g a c
    split at e
    · rename_i ha
      cases e
      exact ⟨c, by rw [Array.toList_eq_nil_iff.1 ha], rfl⟩
    · cases e
  · cases e

theorem rf_resolve {a : Act} {g : Operand} {gf : FuncId} {lb : Array Value} (hg : a.eval g = .func (.func gf) #[] lb) (l : Nat) (w : World) :
    (resolve a.eval (rangeCall g l) 0).run P w = .ok { target := .fn (.func gf) lb, args := #[.func (.yield l) #[] #[]] } w := by
  simp only [resolve, hg]
  simp [go_sem]

theorem evCode_sound (hE : E.Ok P G) (hI : ItsOk P E) (hcall : ∀ B : Kept, (∀ i, i < G → B.old i) → CallOk P B call) {D : Dr} {draw : Nat → Array Oper → PT Value → AHeap → KX → Option Ans} (hdraw : ∀ B : Kept, (∀ i, i < G → B.old i) → DrawOk P B G D draw) (lf : Nat) : ∀ (c : Code) {ro : Option Nat} {dep : Nat} {B : Kept} {k : KX} {r : Ans} {m : MP} {h : AHeap} {w : World} {tm : PT Value} {a : Act} {Q : Exit → Act → World → Prop},
    (∀ i, i < G → B.old i) → codeOk nt G D c = true → evCode E call draw lf c tm h k = some r → HRel B m h w → TRel nt m tm a → Rnd ro B w → KOk B nt m h w a.defers k r Q → c.wpIn (FR ro) dep P Q a w := by
  intro c
  induction c with
  | skip =>
    intro ro dep B k r m h w tm a Q hG hc e H T hr hk
    exact wpIn_skip (hk _ _ _ _ _ _ _ _ e (Gr.refl h m) H T (.of_bel _ (Bel.refl B w)) .normal)
  | region id ops dr =>
    intro ro dep B k r m h w tm a Q hG hc e H T hr hk
    cases dr with
    | true => exact hdraw B hG id e hc H T hk
    | false =>
      refine wpIn_region ?_
      simp only [codeOk, Bool.and_eq_true] at hc
      have := evOps_sound (ro := ro) (dep := dep) (Q := Q) hE hG (hcall B hG) hc.1 ops.toList 0 (by simp) e H T hk
      rw [Array.length_toList, ← List.range_eq_range'] at this
      exact this
  | seq x y ihx ihy =>
    intro ro dep B k r m h w tm a Q hG hc e H T hr hk
    simp only [codeOk, Bool.and_eq_true] at hc
    refine wpIn_seq (ihx (k := fun e tm h => match e with | .normal => evCode E call draw lf y tm h k | e => k e tm h) hG hc.1 e H T hr ?_)
    intro S e1 tm' h' m' w' a' e' hk' hm H' T' hd hx
    cases hx with
    | normal => exact ihy (by rw [hd.old]; exact hG) hc.2 hk' H' T' (hr.ends hd) (hk.from_ hm hd)
    | exit id => exact hk _ _ _ _ _ _ _ _ hk' hm H' T' hd (.exit id)
    | ret => exact hk _ _ _ _ _ _ _ _ hk' hm H' T' hd .ret
    | panic hv => exact hk _ _ _ _ _ _ _ _ hk' hm H' T' hd (.panic hv)
  | cond c x y ihx ihy =>
    intro ro dep B k r m h w tm a Q hG hc e H T hr hk
    simp only [codeOk, Bool.and_eq_true] at hc
    obtain ⟨b, eb, e1⟩ := ob_eq e
    have hv := T.opnd H hG hc.1.1
    rw [bool?_eq eb] at hv
    refine wpIn_cond hv.bool_inv ?_
    cases b with
    | true => exact ihx hG hc.1.2 e1 H T hr hk
    | false => exact ihy hG hc.2 e1 H T hr hk
  | block id c ih =>
    intro ro dep B k r m h w tm a Q hG hc e H T hr hk
    refine wpIn_block (ih (k := fun e tm h => match e with | .exit j => (match Nat.beq j id with | true => k .normal tm h | false => k (.exit j) tm h) | e => k e tm h) hG hc e H T hr ?_)
    intro S e1 tm' h' m' w' a' e' hk' hm H' T' hd hx
    cases hx with
    | normal => exact hk _ _ _ _ _ _ _ _ hk' hm H' T' hd .normal
    | exit j =>
      simp only [Exit.inBlock]
      simp only at hk'
      split at hk'
      · rename_i hj
        rw [if_pos (Nat.eq_of_beq_eq_true hj)]
        exact hk _ _ _ _ _ _ _ _ hk' hm H' T' hd .normal
      · rename_i hj
        rw [if_neg (Nat.ne_of_beq_eq_false hj)]
        exact hk _ _ _ _ _ _ _ _ hk' hm H' T' hd (.exit j)
    | ret => exact hk _ _ _ _ _ _ _ _ hk' hm H' T' hd .ret
    | panic hv => exact hk _ _ _ _ _ _ _ _ hk' hm H' T' hd (.panic hv)
  | loop c ih =>
    intro ro dep B k r m h w tm a Q hG hc e H T hr hk
    exact wpIn_loop_rounds lf (loop_sound (P := P) (nt := nt) (k := k) (r := r) (Q := Q) (body := fun tm h k => evCode E call draw lf c tm h k) (c := c) (fun hG e H T hr hk => ih hG hc e H T hr hk) lf hG e H T hr hk)
  | exit id =>
    intro ro dep B k r m h w tm a Q hG hc e H T hr hk
    exact wpIn_exit (hk _ _ _ _ _ _ _ _ e (Gr.refl h m) H T (.of_bel _ (Bel.refl B w)) (.exit id))
  | ret =>
    intro ro dep B k r m h w tm a Q hG hc e H T hr hk
    exact wpIn_ret (hk _ _ _ _ _ _ _ _ e (Gr.refl h m) H T (.of_bel _ (Bel.refl B w)) .ret)
  | rangeFunc g ps x y ihx ihy =>
    intro ro dep B k r m h w tm a Q hG hc e H T hr hk
    simp only [codeOk, Bool.and_eq_true] at hc
    obtain ⟨⟨hcg, hcx⟩, hcy⟩ := hc
    obtain ⟨p, ep, e1⟩ := ob_eq e
    obtain ⟨it, eit, e2⟩ := ob_eq e1
    obtain ⟨st, est, e3⟩ := ob_eq e2
    clear e e1 e2
    obtain ⟨c, ec, hcl⟩ := fnOf_eq ep
    have hv := T.opnd H hG hcg
    rw [ec] at hv
    have hform : ∃ c', a.eval g = .func (.func p.1) #[] c' ∧ LRel m p.2 c'.toList := by
      generalize a.eval g = q at hv
      cases hv with
      | func _ _ a' _ c' ha ra hcc rc =>
        have : a' = #[] := Array.eq_empty_of_size_eq_zero (by rw [← ha]; rfl)
        subst this
        exact ⟨c', rfl, by rw [← hcl]; exact ⟨by simpa using hcc, fun i v v' x y => rc i v v' (by simpa using x) (by simpa using y)⟩⟩
    obtain ⟨c', hge, hlb⟩ := hform
    have hit := hI _ _ eit
    refine wpIn_rangeFunc fun fn _ => ?_
    cases ro with
    | none =>
      have HD := H.mine (.deferred (some []))
      have H1 := HD.mine (.loop { state := .ready, pending := none, fn, tmps := a.tmps, params := ps, assign := x, body := y, defers := w.heap.size })
      generalize hw1 : (w.alloc (.deferred (some []))).alloc (.loop { state := .ready, pending := none, fn, tmps := a.tmps, params := ps, assign := x, body := y, defers := w.heap.size }) = w1 at H1
      rw [World.size_alloc] at H1
      have hL1 : w1.heap[w.heap.size + 1]? = some (.loop { state := .ready, pending := none, fn, tmps := a.tmps, params := ps, assign := x, body := y, defers := w.heap.size }) := by
        rw [← hw1]; have := World.alloc_heap_new (w.alloc (.deferred (some []))) (.loop { state := .ready, pending := none, fn, tmps := a.tmps, params := ps, assign := x, body := y, defers := w.heap.size }); rwa [World.size_alloc] at this
      have hK1 : w1.heap[w.heap.size]? = some (.deferred (some [])) := by
        rw [← hw1]; exact (heap_alloc_lt _ _ _ (by simp)).trans (World.alloc_heap_new w _)
      have hb1 : Bel B w w1 := by
        rw [← hw1]
        exact ((Bel.refl B w).alloc H.size _).alloc (fun k hk => by have := H.size k hk; simp; omega) _
      have hends : Ends B (B.plus [w.heap.size]) w w1 a.defers (mkD w.heap.size :: a.defers) :=
        ⟨rfl, fun i q => .inl q, hb1, [w.heap.size], rfl, by simp, fun D hD => by
          have : D = w.heap.size := by simpa using hD
          subst this
          exact ⟨H.free, .inr (by simp), hK1⟩⟩
      have hnl : ¬ (B.plus [w.heap.size]) (w.heap.size + 1) := by
        rintro (q | q | q)
        · have := H.size _ (.inl q); omega
        · have := H.size _ (.inr q); omega
        · simp at q
      refine ⟨w.heap.size + 1, [mkD w.heap.size], w1, { target := .fn (.func p.1) c', args := #[.func (.yield (w.heap.size + 1)) #[] #[]] }, w1, p.1, #[.func (.yield (w.heap.size + 1)) #[] #[]] ++ c', w1, ?_, rf_resolve hge _ _, fun _ _ => trivial, ?_, fun hh => by simp [FR, Fence.wide] at hh, ?_⟩
      · rw [← hw1]; exact run_enterLoop_outer _ _ _ _ _
      · simp [invoke, go_sem, hit.1]
      · have := rf_core (P := P) (G := G) (nt := nt) (a := { a with defers := [mkD w.heap.size] ++ a.defers }) (ro := none) (n := dep - 1) (n' := dep) (x := x) (y := y) (fun hG e H T hr hk => ihx hG hcx e H T hr hk) (fun hG e H T hr hk => ihy hG hcy e H T hr hk)
          (B := B.plus [w.heap.size]) hG (l := w.heap.size + 1) (D := w.heap.size) (fn := fn) (ps := ps) rfl hL1 H1 hnl ⟨T.sz, T.slot⟩ hit hlb est e3 (hk.from_ (Gr.refl h m) hends)
        simpa using this
    | some l0 =>
      obtain ⟨hBl0, r0, hr0⟩ := hr l0 rfl
      have H1 := H.mine (.loop { state := .ready, pending := none, fn, tmps := a.tmps, params := ps, assign := x, body := y, defers := r0.defers })
      generalize hw1 : w.alloc (.loop { state := .ready, pending := none, fn, tmps := a.tmps, params := ps, assign := x, body := y, defers := r0.defers }) = w1 at H1
      have hL1 : w1.heap[w.heap.size]? = some (.loop { state := .ready, pending := none, fn, tmps := a.tmps, params := ps, assign := x, body := y, defers := r0.defers }) := by
        rw [← hw1]; exact World.alloc_heap_new w _
      have hb1 : Bel B w w1 := by
        rw [← hw1]
        exact (Bel.refl B w).alloc H.size _
      refine ⟨w.heap.size, [], w1, { target := .fn (.func p.1) c', args := #[.func (.yield w.heap.size) #[] #[]] }, w1, p.1, #[.func (.yield w.heap.size) #[] #[]] ++ c', w1, ?_, rf_resolve hge _ _, fun _ _ => trivial, ?_, fun hh => by simp [FR, Fence.wide] at hh, ?_⟩
      · rw [← hw1]; exact run_enterLoop_inner hr0 _ _ _ _ _
      · simp [invoke, go_sem, hit.1]
      · have := rf_core (P := P) (G := G) (nt := nt) (a := { a with defers := [] ++ a.defers }) (ro := some l0) (n := dep - 1) (n' := dep) (x := x) (y := y) (fun hG e H T hr hk => ihx hG hcx e H T hr hk) (fun hG e H T hr hk => ihy hG hcy e H T hr hk)
          (B := B) hG (l := w.heap.size) (D := r0.defers) (fn := fn) (ps := ps) rfl hL1 H1 H.free ⟨T.sz, T.slot⟩ hit hlb est e3 (hk.from_ (Gr.refl h m) (.of_bel _ hb1))
        simpa using this
  | scope c _ => intro ro dep B k r m h w tm a Q hG hc e; cases e
  | label l => intro ro dep B k r m h w tm a Q hG hc e; cases e
  | goto l => intro ro dep B k r m h w tm a Q hG hc e; cases e
  | refuse s => intro ro dep B k r m h w tm a Q hG hc e; cases e

end
end Go.Amb
