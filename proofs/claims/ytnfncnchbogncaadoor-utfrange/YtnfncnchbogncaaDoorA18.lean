/- Part of the proof by the abstract machine: no claim of its own. -/
import Derived.Test.YtnfncnchbogncaaDoorA16c
import Derived.RangeFuncLeaves
set_option linter.unusedSimpArgs false
set_option linter.unusedVariables false
set_option linter.unnecessarySimpa false
set_option linter.unusedSectionVars false
/- The abstract machine, part 18: functions. -/
set_option linter.unusedVariables false
namespace Go.Amb
open Go.RowKit

section
variable {P : Program} {E : Env} {G nt : Nat} {B : Kept}
variable {m : MP} {h : AHeap} {w : World} {tm : PT Value} {a : Act} {call : Call} {r : Ans}

theorem get_tm0 : ∀ (l : List Value) (n : Nat) (t : PT Value) (q : Nat), (tm0 l n t).get q = if n ≤ q ∧ q < n + l.length then l[q - n]? else t.get q := by
  intro l
  induction l with
  | nil => intro n t q; simp only [tm0, List.length_nil, Nat.add_zero]; rw [if_neg (by omega)]
  | cons v l ih =>
    intro n t q
    simp only [tm0, List.length_cons]
    rw [ih]
    by_cases h1 : n + 1 ≤ q ∧ q < n + 1 + l.length
    · rw [if_pos h1, if_pos (by omega)]
      have : q - n = (q - (n + 1)) + 1 := by omega
      rw [this, List.getElem?_cons_succ]
    · rw [if_neg h1, PT.get_set]
      by_cases h2 : q = n
      · subst h2
        rw [if_pos rfl, if_pos (by omega)]
        simp
      · rw [if_neg h2, if_neg (by omega)]

theorem TRel.start {args args' : List Value} (hl : LRel m args args') (nt : Nat) : TRel nt m (tm0 args 0 .leaf) { tmps := args'.toArray ++ Array.replicate (nt - args'.toArray.size) Go.undef, defers := [] } := by
  refine ⟨by simp; omega, fun t ht => ?_⟩
  have h1 : Amb.opnd (tm0 args 0 .leaf) (.tmp t) = (args[t]?).getD Go.undef := by
    simp only [Amb.opnd, get_tm0, Nat.zero_le, true_and, Nat.zero_add, Nat.sub_zero]
    by_cases c : t < args.length
    · rw [if_pos c]; cases hq : args[t]? <;> rfl
    · rw [if_neg c, List.getElem?_eq_none (by omega)]; rfl
  rw [h1]
  simp only [Array.getD_eq_getD_getElem?]
  by_cases c : t < args.length
  · obtain ⟨v', e1, e2⟩ := hl.get (List.getElem?_eq_getElem c)
    rw [List.getElem?_eq_getElem c, Array.getElem?_append_left (by simp; rw [← hl.1]; exact c)]
    simp only [List.getElem?_toArray, e1, Option.getD_some]
    exact e2
  · rw [List.getElem?_eq_none (by omega), Array.getElem?_append_right (by simp; rw [← hl.1]; omega)]
    have : (Array.replicate (nt - args'.toArray.size) Go.undef)[t - args'.toArray.size]?.getD Go.undef = Go.undef := by
      rw [Array.getElem?_replicate]
      split <;> rfl
    rw [this]
    exact VRel.undef

theorem loadVar_run (hE : E.Ok P G) (H : HRel B m h w) {t : TypeId} {i : TI} (hi : i.Ok P t) {ad : Addr} {rf : Ref} (hr : m ad.block = some rf) {R : Type} {f : Value → Option R} {r : R} (e : h.ld i ad.block ad.off f = some r) :
    ∃ v v', f v = some r ∧ VRel m v v' ∧ (loadVar t ⟨rf.b, rf.o + ad.off, none⟩).run P w = .ok v' w := by
  rcases ld_eq e with ⟨ha, vs, hl, hc, e⟩ | ⟨ha, h1, v, hc, e⟩
  · obtain ⟨vs', hL, hR⟩ := H.cells hr hc
    refine ⟨_, _, e, LRel.agg hL, ?_⟩
    have hrun := Go.run_loadCells_list (P := P) w ⟨rf.b, rf.o + ad.off, none⟩ vs' hR
    rw [← hL.1, hl] at hrun
    simp [loadVar, run_isAgg hi, ha, run_sizeOf hi, hrun]
  · obtain ⟨v', hw, hvr⟩ := H.cell hr hc
    refine ⟨_, _, e, hvr, ?_⟩
    simp [loadVar, run_isAgg hi, ha, hw]

/-- How a result is read. -/
def resOf (tmps : Array Value) : ResultVar → Sem Value
  | .tmp t => pure (tmps.getD t Go.undef)
  | .cell a t => do loadVar t (← asAddr (tmps.getD a Go.undef))
theorem results_eq (fn : Func) (tmps : Array Value) : results fn tmps = (do
    let vs ← fn.results.mapM (resOf tmps)
    pure (if h : vs.size = 1 then vs[0] else .tuple vs)) := by
  unfold results
  rfl

theorem evRes_sound (hE : E.Ok P G) (H : HRel B m h w) (T : TRel nt m tm a) : ∀ (l : List ResultVar) {f : List Value → Option Ans} {r : Ans}, (l.all fun x => match x with | .tmp t => Nat.blt t nt | .cell a _ => Nat.blt a nt) = true →
    evRes E tm h l f = some r → ∃ vs vs' : List Value, f vs = some r ∧ LRel m vs vs' ∧ (l.mapM (resOf a.tmps)).run P w = .ok vs' w := by
  intro l
  induction l with
  | nil => intro f r _ e; exact ⟨[], [], e, LRel.nil m, by simp⟩
  | cons x l ih =>
    intro f r hx e
    simp only [List.all_cons, Bool.and_eq_true] at hx
    cases x with
    | tmp t =>
      obtain ⟨vs, vs', h1, h2, h3⟩ := ih hx.2 (show evRes E tm h l (fun l => f (opnd tm (.tmp t) :: l)) = some r from e)
      refine ⟨_, _, h1, LRel.cons (T.slot t (Nat.blt_eq.mp hx.1)) h2, ?_⟩
      simp [List.mapM_cons, resOf, h3]
    | cell c t =>
      obtain ⟨i, ei, e1⟩ := ob_eq e
      obtain ⟨p, ep, e2⟩ := ob_eq e1
      obtain ⟨ad, ead, e3⟩ := ob_eq e2
      have hv := T.slot c (Nat.blt_eq.mp hx.1)
      rw [ptr?_eq ep, ead] at hv
      obtain ⟨_, rf, hr, hv⟩ := hv.ptr_inv
      obtain ⟨v, v', g1, g2, g3⟩ := loadVar_run hE H (hE.ti _ _ ei) hr e3
      obtain ⟨vs, vs', h1, h2, h3⟩ := ih hx.2 g1
      refine ⟨_, _, h1, LRel.cons g2 h2, ?_⟩
      simp [List.mapM_cons, resOf, h3, hv, asAddr, g3]

theorem retOf_rel {l l' : List Value} (hl : LRel m l l') : VRel m (retOf l) (if h : l'.toArray.size = 1 then l'.toArray[0] else .tuple l'.toArray) := by
  cases l with
  | nil =>
    have : l' = [] := List.eq_nil_of_length_eq_zero hl.1.symm
    subst this
    simp only [retOf]
    exact VRel.undef
  | cons v r =>
    cases r with
    | nil =>
      cases l' with
      | nil => have := hl.1; simp at this
      | cons v' r' =>
        cases r' with
        | nil => simp only [retOf]; exact hl.2 0 v v' rfl rfl
        | cons _ _ => have := hl.1; simp at this
    | cons u r =>
      have hne : ¬ l'.toArray.size = 1 := by have := hl.1; simp at this; simp; omega
      rw [dif_neg hne]
      exact hl.tuple

/-- The marks that loops have left are taken up: nothing that is known turns. -/
theorem leaves_marks {F : Fence} {n : Nat} {fn : Func} {tmps : Array Value} {R : Ending → World → Prop} {u : FrameMode} {S : Kept} {w1 : World} (hu : u ≠ .run) (hfin : ∀ w2, HRel S m h w2 → Bel B w1 w2 → LeavesIn F n P fn tmps R [] u w2) :
    ∀ (L : List Nat) {w' : World}, L.Nodup → (∀ D ∈ L, ¬ B D ∧ S.own D ∧ w'.heap[D]? = some (.deferred (some []))) → HRel S m h w' → Bel B w1 w' → LeavesInM F n P fn tmps R (L.map mkD) u w' := by
  intro L
  induction L with
  | nil => intro w' _ _ H hb; exact hfin w' H hb
  | cons D L ih =>
    intro w' hn hL H hb
    obtain ⟨h1, h2, h3⟩ := hL D List.mem_cons_self
    obtain ⟨n1, n2⟩ := List.nodup_cons.1 hn
    refine ⟨hu, .inl ⟨D, _, rfl, run_takeDeferred h3, ih n2 (fun D' hD' => ?_) (H.mineTurn h2 _) (hb.putOther h1 _)⟩⟩
    obtain ⟨g1, g2, g3⟩ := hL D' (List.mem_cons_of_mem _ hD')
    exact ⟨g1, g2, (World.putObj_heap_other (fun e => n1 (by rw [← e]; exact hD'))).trans g3⟩

theorem evF_sound (hE : E.Ok P G) (hI : ItsOk P E) {X : Call} (hX : ∀ B : Kept, (∀ i, i < G → B.old i) → CallOk P B X) (hdraw : ∀ call D, (∀ B : Kept, (∀ i, i < G → B.old i) → CallOk P B call) → ∀ B : Kept, (∀ i, i < G → B.old i) → DrawOk P B G D (evDraw E call D)) : ∀ n (B : Kept), (∀ i, i < G → B.old i) → CallOk P B (evF E X n) := by
  intro n
  induction n with
  | zero => intro B hG f args h r e; cases e
  | succ n ih =>
    intro B hG f args h r e m w args' H hl
    unfold evF at e
    split at e
    · obtain ⟨fn, ef, e1⟩ := ob_eq e
      obtain ⟨c, ec, e2⟩ := ob_eq e1
      obtain ⟨hf, hok⟩ := hE.fn f fn ef
      unfold funcOk at hok
      rw [ec] at hok
      simp only [Bool.and_eq_true] at hok
      obtain ⟨⟨hc, hres⟩, _⟩ := hok
      refine (callsIn_wide (n := 0)).1 (callsIn_of_wp_marks (F := Fence.wide) hf ec trivial (show c.wpIn (FR none) 0 P _ _ w from ?_))
      refine evCode_sound hE hI ih (hdraw _ _ ih) n c hG hc e2 H (TRel.start hl fn.ntmps) (fun l el => by cases el) ?_
      intro S x tm' h' m' w' a' e' hk hm H' T' hd hx
      obtain ⟨L, eL, nL, gL⟩ := hd.marks
      have fin : evRes E tm' h' fn.results.toList (fun l => some (.ret (retOf l) h')) = some r → LeavesInM Fence.wide 0 P fn a'.tmps (Post B m h w r) a'.defers .returning w' := by
        intro hk
        rw [eL, List.append_nil]
        refine leaves_marks (B := B) (w1 := w) (fun q => by cases q) (fun w2 H2 hb2 => ?_) L nL gL H' hd.bel
        obtain ⟨vs, vs', h1, h2, h3⟩ := evRes_sound (P := P) hE H2 T' _ hres hk
        simp only [Option.some.injEq] at h1
        subst h1
        refine ⟨_, ?_, ⟨m', hm, H2.less hd.old hd.own, retOf_rel h2, hb2⟩⟩
        rw [results_eq]
        simp only [Array.mapM_eq_mapM_toList, Sem.run_bind, Sem.run_map, h3, Result.andThen_ok, Sem.run_pure]
      cases hx with
      | normal => exact fin hk
      | ret => exact fin hk
      | exit id => cases hk
      | panic hv =>
        simp only [Option.some.injEq] at hk
        subst hk
        show LeavesInM Fence.wide 0 P fn a'.tmps _ a'.defers _ w'
        rw [eL, List.append_nil]
        refine leaves_marks (B := B) (w1 := w) (fun q => by cases q) (fun w2 H2 hb2 => ?_) L nL gL H' hd.bel
        exact ⟨m', _, rfl, hm, H2.less hd.old hd.own, hv, hb2⟩
    · exact hX B hG f args h r e m w args' H hl

end
end Go.Amb
