/- pattern.Parse for the abstract machine: all of it. -/
import Derived.Test.YtnfncnchbogncaaJ6
set_option linter.unusedVariables false
set_option maxRecDepth 100000
namespace Go.Amb
open Go.RowKit Go.Proofs

theorem parse_ok {G B : Nat} (hE : EE.Ok Try.prog G) (hG : G ≤ B) {call : Call} (hcall : CallOk Try.prog B call) {n : Nat} {args args' : List Value} {h : AHeap} {r : Ans} {m : MP} {w : World}
    (e : parseV EE call n args h = some r) (H : HRel B m h w) (hl : LRel m args args') : Calls Try.prog 78 args'.toArray w (Post B m h w r) := by
  refine calls_of_wp_defers Try.func78 b78 ?_
  have T := TRel.start hl Try.f78.ntmps
  have hn : Try.f78.ntmps = 48 := by kernel_rfl
  have hdf : ({ tmps := args'.toArray ++ Array.replicate (Try.f78.ntmps - args'.toArray.size) undef, defers := [] } : Act).defers = [] := rfl
  generalize ({ tmps := args'.toArray ++ Array.replicate (Try.f78.ntmps - args'.toArray.size) undef, defers := [] } : Act) = a at T hdf ⊢
  have hfn : EE.fn.get 78 = some Try.f78 := by kernel_rfl
  obtain ⟨_, hok⟩ := hE.fn 78 _ hfn
  unfold funcOk at hok
  rw [b78] at hok
  simp only [codeOk, Bool.and_eq_true] at hok
  obtain ⟨⟨⟨k1, k2, k3, k4, k5, k6⟩, hres⟩, _⟩ := hok
  unfold parseV at e
  -- a return ahead of the defer
  have ret : ∀ {tm' : PT Value} {h' : AHeap} {m' : MP} {w' : World} {a' : Act}, fin EE Try.f78.results.toList tm' h' = some r → Gr h m h' m' → HRel B m' h' w' → TRel Try.f78.ntmps m' tm' a' → a'.defers = [] → Below B w w' →
      bodyPostD Try.prog Try.f78 (Post B m h w r) .ret a' w' := by
    intro tm' h' m' w' a' e hg H T hd hb
    show Leaves Try.prog Try.f78 a'.tmps (Post B m h w r) a'.defers .returning w'
    rw [hd]
    exact fin_sound hE hres e H T hg hb
  refine sq_sound hE hG hcall e k1 H T (fun tm' h' m' w' a' e hg H T hd hb => ret e hg H T (hd.trans hdf) hb) ?_
  intro tm1 h1 m1 w1 a1 e1 g1 H1 T1 d1 b1
  refine sq_sound hE hG hcall e1 k2 H1 T1 (fun tm' h' m' w' a' e hg H T hd hb => ret e (g1.trans hg) H T (hd.trans (d1.trans hdf)) (b1.trans hb)) ?_
  intro tm2 h2 m2 w2 a2 e2 g2 H2 T2 d2 b2
  refine sq_sound hE hG hcall e2 k3 H2 T2 (fun tm' h' m' w' a' e hg H T hd hb => ret e ((g1.trans g2).trans hg) H T (hd.trans (d2.trans (d1.trans hdf))) ((b1.trans b2).trans hb)) ?_
  intro tm3 h3 m3 w3 a3 e3 g3 H3 T3 d3 b3
  refine sq_sound hE hG hcall e3 k4 H3 T3 (fun tm' h' m' w' a' e hg H T hd hb => ret e (((g1.trans g2).trans g3).trans hg) H T (hd.trans (d3.trans (d2.trans (d1.trans hdf)))) (((b1.trans b2).trans b3).trans hb)) ?_
  intro tm4 h4 m4 w4 a4 e4 g4 H4 T4 d4 b4
  have hg4 := ((g1.trans g2).trans g3).trans g4
  have hb4 := ((b1.trans b2).trans b3).trans b4
  have hd4 : a4.defers = [] := d4.trans (d3.trans (d2.trans (d1.trans hdf)))
  clear g1 g2 g3 g4 b1 b2 b3 b4 d1 d2 d3 d4 e e1 e2 e3 H H1 H2 H3 T T1 T2 T3
  -- the defer
  have s4 : VRel m4 (opnd tm4 (.tmp 4)) (a4.eval (.tmp 4)) := T4.opnd H4 hG (x := .tmp 4) (by show Nat.blt 4 _ = true; rw [hn]; rfl)
  have s5 : VRel m4 (opnd tm4 (.tmp 5)) (a4.eval (.tmp 5)) := T4.opnd H4 hG (x := .tmp 5) (by show Nat.blt 5 _ = true; rw [hn]; rfl)
  have s6 : VRel m4 (opnd tm4 (.tmp 6)) (a4.eval (.tmp 6)) := T4.opnd H4 hG (x := .tmp 6) (by show Nat.blt 6 _ = true; rw [hn]; rfl)
  have hcs : LRel m4 [opnd tm4 (.tmp 4), opnd tm4 (.tmp 5), opnd tm4 (.tmp 6)] [a4.eval (.tmp 4), a4.eval (.tmp 5), a4.eval (.tmp 6)] := LRel.cons s4 (LRel.cons s5 (LRel.cons s6 (LRel.nil _)))
  have hfv : VRel m4 (.func (.func 121) #[] #[opnd tm4 (.tmp 4), opnd tm4 (.tmp 5), opnd tm4 (.tmp 6)]) (.func (.func 121) #[] #[a4.eval (.tmp 4), a4.eval (.tmp 5), a4.eval (.tmp 6)]) :=
    .func _ _ _ _ _ rfl (fun i v v' x => by simp at x) hcs.1 (fun i v v' x y => hcs.2 i v v' (by simpa using x) (by simpa using y))
  have hsz : 48 ≤ a4.tmps.size := by have := T4.sz; rw [hn] at this; exact this
  refine wp_seq ?_
  rw [hR6]
  refine wp_region ?_
  rw [hR6n]
  show wpOps _ _ _ [0, 1] _ _
  rw [wpOps_cons]
  unfold wpOp
  simp only [hR6a, Region.wanted, hR6ga, if_true]
  left
  unfold Oper.wp
  rw [mk_run]
  simp only [Oper.upon, hR6da]
  rw [wpOps_cons]
  unfold wpOp
  simp only [hR6b, Region.wanted, hR6gb, if_true]
  left
  unfold Oper.wp
  rw [df_run _ _ _ (ev_put _ _ _ (by omega))]
  simp only [Oper.upon, hR6db, wpOps, Exit.then]
  have T5 := T4.put (some 22) hfv
  have T6 : TRel Try.f78.ntmps m4 (put tm4 (some 22) (.func (.func 121) #[] #[opnd tm4 (.tmp 4), opnd tm4 (.tmp 5), opnd tm4 (.tmp 6)]))
      (({ a4.put (some 22) (.func (.func 121) #[] #[a4.eval (.tmp 4), a4.eval (.tmp 5), a4.eval (.tmp 6)]) with defers := { target := .fn (.func 121) #[a4.eval (.tmp 4), a4.eval (.tmp 5), a4.eval (.tmp 6)], args := #[] } :: (a4.put (some 22) (.func (.func 121) #[] #[a4.eval (.tmp 4), a4.eval (.tmp 5), a4.eval (.tmp 6)])).defers } : Act).put none undef) := ⟨T5.sz, T5.slot⟩
  refine evCode_sound hE hG hcall (draw_sound hE hG hcall (drOf EE 78)) n RB e4 k6 H4 T6 ?_
  intro x tm' h' m' w' a' e' hk' hm H' T' hd hb hx
  have hd' : a'.defers = [{ target := .fn (.func 121) #[a4.eval (.tmp 4), a4.eval (.tmp 5), a4.eval (.tmp 6)], args := #[] }] := by
    rw [hd]
    show _ :: (a4.put _ _).defers = _
    rw [put_defers, hd4]
  have hinv : (invoke (.fn (.func 121) #[a4.eval (.tmp 4), a4.eval (.tmp 5), a4.eval (.tmp 6)]) #[]).run Try.prog w' = .ok (.enter 121 #[a4.eval (.tmp 4), a4.eval (.tmp 5), a4.eval (.tmp 6)]) w' := by
    generalize a4.eval (.tmp 4) = x4
    generalize a4.eval (.tmp 5) = x5
    generalize a4.eval (.tmp 6) = x6
    simp [go_sem, invoke]
  have back : fin EE Try.f78.results.toList tm' h' = some r → Leaves Try.prog Try.f78 a'.tmps (Post B m h w r) a'.defers .returning w' := by
    intro e
    rw [hd']
    refine leaves_cons (by simp) hinv ?_
    refine (idle _ w').mono ?_
    rintro e' u' w'' ⟨rfl, rfl, rfl⟩
    exact fin_sound hE hres e H' T' (hg4.trans hm) (hb4.trans hb)
  cases hx with
  | normal => exact back hk'
  | ret => exact back hk'
  | exit id => cases hk'
  | panic hv =>
    rename_i v v'
    simp only at hk'
    split at hk'
    · rename_i heq; cases heq
    · rename_i heq; cases heq
    · rename_i t u heq
      cases heq
      obtain ⟨u', rfl, hu'⟩ := hv.iface_inv
      show Leaves Try.prog Try.f78 a'.tmps (Post B m h w r) a'.defers (.panicking [{ v := .iface t u', recovered := false }]) w'
      rw [hd']
      refine leaves_cons (by simp) hinv ?_
      refine (catches hE hG hcall hk' H' (hcs.mono hm.le) hv).mono ?_
      rintro e' q w'' ⟨⟨x, rfl⟩, hs, h5, m5, hf, hg5, H5, hb5⟩
      simp only
      rw [hs]
      exact fin_sound hE hres hf H5 (T'.mono hg5.le) ((hg4.trans hm).trans hg5) ((hb4.trans hb).trans hb5)
    · cases hk'

theorem XJ_ok (B : Nat) : CallOk Try.prog B XJ := by
  intro f args h r e m w args' H hl
  unfold XJ at e
  split at e
  · rename_i hf
    rw [Nat.eq_of_beq_eq_true hf]
    exact join_ok e H hl
  · cases e
theorem XP_ok {G B : Nat} (hE : EE.Ok Try.prog G) (hG : G ≤ B) (n : Nat) : CallOk Try.prog B (XP n) := by
  intro f args h r e m w args' H hl
  unfold XP at e
  split at e
  · rename_i hf
    rw [Nat.eq_of_beq_eq_true hf]
    exact parse_ok hE hG (evF_ok hE hG (XJ_ok B) n) e H hl
  · exact XJ_ok B f args h r e m w args' H hl
theorem all_ok {G B : Nat} (hE : EE.Ok Try.prog G) (hG : G ≤ B) (n : Nat) : CallOk Try.prog B (evF EE (XP n) n) := evF_ok hE hG (XP_ok hE hG n) n
end Go.Amb
