/- pattern.Parse for the abstract machine: the deferred function. -/
import Derived.Test.YtnfncnchbogncaaJ5
set_option linter.unusedVariables false
set_option maxRecDepth 100000
namespace Go.Amb
open Go.RowKit Go.Proofs

theorem sz_put (a : Act) (d : Option Tmp) (v : Value) : (a.put d v).tmps.size = a.tmps.size := by cases d <;> simp [Act.put]
theorem ev_put (a : Act) (t : Nat) (v : Value) (h : t < a.tmps.size) : (a.put (some t) v).eval (.tmp t) = v := by simp [Act.eval, Act.put, h]
theorem ev_put_ne (a : Act) (t s : Nat) (v : Value) (h : s ≠ t) : (a.put (some s) v).eval (.tmp t) = a.eval (.tmp t) := by simp [Act.eval, Act.put, Array.getElem?_setIfInBounds_ne h]
theorem res121 (tmps : Array Value) (w : World) : (results Try.f121 tmps).run Try.prog w = .ok (.tuple #[]) w := by
  have h : Try.f121.results = #[] := by kernel_rfl
  simp [results, h]

/-- It recovers nothing. -/
theorem idle (args : Array Value) (w : World) : CallsD Try.prog 121 args .returning w fun e u' w' => e = .returned (.tuple #[]) ∧ u' = .returning ∧ w' = w := by
  refine callsD_of_wpS Try.func121 b121 fun c₀ cs hu => ?_
  have hn : Try.f121.ntmps = 22 := by kernel_rfl
  have hsz : 22 ≤ ({ tmps := args ++ Array.replicate (Try.f121.ntmps - args.size) undef, defers := [] } : Act).tmps.size := by rw [hn]; simp; omega
  have hdf : ({ tmps := args ++ Array.replicate (Try.f121.ntmps - args.size) undef, defers := [] } : Act).defers = [] := rfl
  generalize ({ tmps := args ++ Array.replicate (Try.f121.ntmps - args.size) undef, defers := [] } : Act) = a at hsz hdf ⊢
  apply wpS_seq
  rw [hS1]
  apply wpS_region
  rw [hS1n]
  show wpOpsS _ _ _ [0, 1] _ _ _
  have hrc : recoverD (c₀ :: cs) = none := by simp [recoverD, hu]
  simp only [wpOpsS, hS1a, hS1b, Region.wanted, hg0, hg1, if_true, rec_run, hrc, asg_run, Oper.upon, hd0, hd1, Exit.thenS]
  rw [ev_put _ _ _ (by omega)]
  generalize ha2 : (a.put (some 6) Value.nilIface).put (some 3) Value.nilIface = a2
  have hsz2 : 22 ≤ a2.tmps.size := by rw [← ha2, sz_put, sz_put]; exact hsz
  have hdf2 : a2.defers = [] := by rw [← ha2, put_defers, put_defers]; exact hdf
  have h3 : a2.eval (.tmp 3) = .nilIface := by rw [← ha2]; exact ev_put _ _ _ (by rw [sz_put]; omega)
  rw [S2_eq]
  apply wpS_seq
  rw [hN]
  apply wpS_region
  rw [hNn]
  show wpOpsS _ _ _ [0, 1] _ _ _
  have hq := neq_run (a2.put (some 7) Value.nilIface).eval w (ev_put _ _ _ (by omega)) rfl
  simp only [wpOpsS, hNa, hNb, Region.wanted, hNga, hNgb, if_true, mv_run, Oper.upon, hNda, hNdb, h3, hq, Exit.thenS]
  rw [S2b_eq]
  refine wpS_cond (t := false) (ev_put _ _ _ (by rw [sz_put]; omega)) ?_
  simp only [Bool.false_eq_true, if_false]
  refine wpS_of_wp (wp_skip ?_)
  refine ⟨by rw [put_defers, put_defers]; exact hdf2, .returning, ?_, _, res121 _ _, rfl, rfl, rfl⟩
  cases c₀
  simp only at hu
  rw [hu]

/-- It recovers. -/
theorem catches {G B : Nat} (hE : EE.Ok Try.prog G) (hG : G ≤ B) {call : Call} (hcall : CallOk Try.prog B call) {n : Nat} {cs cs' : List Value} {t : TypeId} {v v' : Value} {tm : PT Value} {h : AHeap} {r : Ans} {m : MP} {w : World}
    (e : clo EE call n cs (.iface t v) tm h = some r) (H : HRel B m h w) (hl : LRel m cs cs') (hv : VRel m (.iface t v) (.iface t v')) :
    CallsD Try.prog 121 cs'.toArray (.panicking [{ v := .iface t v', recovered := false }]) w fun e u' w' => (∃ x, e = .returned x) ∧ settle u' = .returning ∧ ∃ h' m', fin EE Try.f78.results.toList tm h' = some r ∧ Gr h m h' m' ∧ HRel B m' h' w' ∧ Below B w w' := by
  refine callsD_of_wpS Try.func121 b121 fun c₀ ds hu => ?_
  have T := TRel.start hl Try.f121.ntmps
  have hn : Try.f121.ntmps = 22 := by kernel_rfl
  have hdf : ({ tmps := cs'.toArray ++ Array.replicate (Try.f121.ntmps - cs'.toArray.size) undef, defers := [] } : Act).defers = [] := rfl
  generalize ({ tmps := cs'.toArray ++ Array.replicate (Try.f121.ntmps - cs'.toArray.size) undef, defers := [] } : Act) = a at T hdf ⊢
  have hsz : 22 ≤ a.tmps.size := by have := T.sz; rw [hn] at this; exact this
  apply wpS_seq
  rw [hS1]
  apply wpS_region
  rw [hS1n]
  show wpOpsS _ _ _ [0, 1] _ _ _
  have hrc : recoverD (c₀ :: ds) = some (.iface t v', { c₀ with mode := .panicking [{ v := .iface t v', recovered := true }] } :: ds) := by simp [recoverD, hu]
  simp only [wpOpsS, hS1a, hS1b, Region.wanted, hg0, hg1, if_true, rec_run, hrc, asg_run, Oper.upon, hd0, hd1, Exit.thenS]
  rw [ev_put _ _ _ (by omega)]
  refine wpS_of_wp ?_
  have hfn : EE.fn.get 121 = some Try.f121 := by kernel_rfl
  obtain ⟨_, hok⟩ := hE.fn 121 _ hfn
  unfold funcOk at hok
  rw [b121] at hok
  simp only [codeOk, Bool.and_eq_true] at hok
  refine evCode_sound hE hG hcall (draw_sound hE hG hcall (drOf EE 121)) n S2 e hok.1.1.2 H ((T.put (some 6) hv).put (some 3) hv) ?_
  intro e1 tm' h' m' w' a' e' hk' hm H' T' hd hb hx
  rw [put_defers, put_defers, hdf] at hd
  cases hx with
  | normal => exact ⟨hd, _, rfl, _, res121 _ _, ⟨_, rfl⟩, rfl, _, _, hk', hm, H', hb⟩
  | ret => exact ⟨hd, _, rfl, _, res121 _ _, ⟨_, rfl⟩, rfl, _, _, hk', hm, H', hb⟩
  | exit id => cases hk'
  | panic hv => cases hk'
end Go.Amb
