/- Part of the proof by the abstract machine: no claim of its own. -/
import Derived.Test.YtnfncnchbogncaaDoorU5
import Derived.Test.YtnfncnchbogncaaDoorA21
import Derived.ScopeJumps
import Derived.KernelRfl
set_option linter.unusedSimpArgs false
set_option linter.unusedVariables false
set_option linter.unnecessarySimpa false
set_option linter.unusedSectionVars false
/- Scanner.marks for the abstract machine: a scope with two labels. -/
set_option linter.unusedVariables false
set_option maxRecDepth 100000
namespace Go.Amb
open Go.RowKit Go.Proofs

def scopeRounds (P : Program) (c : Code) (Q : Exit → Act → World → Prop) : Nat → Code → Act → World → Prop
  | 0, _, _, _ => False
  | n + 1, x, a, w => x.wp P (fun e a w => match e with
    | .goto l => ∃ rest, findLabel c l = some rest ∧ scopeRounds P c Q n rest a w
    | e => Q e a w) a w

theorem wp_scope_rounds {P : Program} {c : Code} {Q : Exit → Act → World → Prop} {a : Act} {w : World} (n : Nat) (h : scopeRounds P c Q n c a w) : (Code.scope c).wp P Q a w := by
  intro b k cs
  have key : ∀ n x a w, scopeRounds P c Q n x a w → ∃ e a' w', Q e a' w' ∧ Arrives P (lone (b.at a (.code x :: .inScope c :: k)) cs w) b k cs e a' w' := by
    intro n
    induction n with
    | zero => intro x a w h; exact h.elim
    | succ n ih =>
      intro x a w h
      obtain ⟨e, a₁, w₁, hq, harr⟩ := h b (.inScope c :: k) cs
      cases e with
      | normal => exact ⟨.normal, a₁, w₁, hq, Steps.trans harr (.one step_inScope)⟩
      | exit id => exact ⟨.exit id, a₁, w₁, hq, fun k' hk => harr k' (by simp [exitTo, hk])⟩
      | goto l' =>
        obtain ⟨rest, hf, hr⟩ := hq
        have hg : gotoIn l' (.inScope c :: k) = some (.code rest :: .inScope c :: k) := by simp [gotoIn, hf]
        obtain ⟨e₂, a₂, w₂, hq₂, harr₂⟩ := ih rest a₁ w₁ hr
        exact ⟨e₂, a₂, w₂, hq₂, .of_steps (harr _ hg) harr₂⟩
      | ret => exact ⟨_, a₁, w₁, hq, harr⟩
      | panic ch => exact ⟨_, a₁, w₁, hq, harr⟩
      | outgrown => exact ⟨_, a₁, w₁, hq, harr⟩
  obtain ⟨e, a₁, w₁, hq, harr⟩ := key n c a w h
  exact ⟨e, a₁, w₁, hq, .of_steps (.one step_scope) harr⟩

def sl : Code → Code
  | .seq a _ => a
  | c => c
def sr : Code → Code
  | .seq _ b => b
  | c => c
noncomputable def c21 : Code := match Tryd.f21.body with
  | some c => c
  | none => .skip
noncomputable def R0 : Code := sl c21
noncomputable def sc21 : Code := match sr c21 with
  | .scope c => c
  | c => c
noncomputable def M1 : Code := sl sc21
noncomputable def M2 : Code := sl (sr sc21)
noncomputable def M3 : Code := sl (sr (sr sc21))
noncomputable def M4 : Code := sl (sl (sr (sr (sr (sr sc21)))))
noncomputable def M5 : Code := sl (sr (sr (sr (sr (sr sc21)))))
noncomputable def TL : Code := sr (sr (sr (sr (sr (sr (sr (sr sc21)))))))
noncomputable def rest1 : Code := .seq (.seq M4 (.cond (.tmp 35) (.goto 0) .skip)) (.seq M5 (.seq (.goto 1) (.seq (.label 0) TL)))
theorem b21 : Tryd.f21.body = some (.seq R0 (.scope sc21)) := by kernel_rfl
theorem sc21_eq : sc21 = .seq M1 (.seq M2 (.seq M3 (.seq (.label 1) rest1))) := by kernel_rfl
theorem fl1 : findLabel sc21 1 = some (.seq .skip rest1) := by kernel_rfl
theorem fl0 : findLabel sc21 0 = some (.seq .skip TL) := by kernel_rfl

section
variable (E : Env) (call : Call) (lf : Nat)
noncomputable def ev1 (c : Code) (tm : PT Value) (h : AHeap) (k : PT Value → AHeap → Option Ans) : Option Ans :=
  evCode E call (evDraw E call (drOf E 21)) lf c tm h fun e tm h => match e with
    | .normal => k tm h
    | _ => none
noncomputable def tl21 (kf : PT Value → AHeap → Option Ans) (tm : PT Value) (h : AHeap) : Option Ans :=
  evCode E call (evDraw E call (drOf E 21)) lf TL tm h fun e tm h => match e with
    | .ret => kf tm h
    | _ => none
noncomputable def lp21 (kf : PT Value → AHeap → Option Ans) : Nat → PT Value → AHeap → Option Ans
  | 0, _, _ => none
  | n + 1, tm, h => ev1 E call lf M4 tm h fun tm h => ob (bool? (opnd tm (.tmp 35))) fun b => cond b (tl21 E call lf kf tm h) (ev1 E call lf M5 tm h (lp21 kf n))
noncomputable def run21 (args : List Value) (h : AHeap) : Option Ans :=
  ev1 E call lf R0 (tm0 args 0 .leaf) h fun tm h => ev1 E call lf M1 tm h fun tm h => ev1 E call lf M2 tm h fun tm h => ev1 E call lf M3 tm h fun tm h => lp21 E call lf (fun tm h => evRes E tm h Tryd.f21.results.toList fun l => some (.ret (retOf l) h)) lf tm h
end

section
variable {P : Program} {E : Env} {G nt : Nat} {call : Call} {lf : Nat}
theorem ev1_sound (hE : E.Ok P G) (hI : ItsOk P E) (hcall : ∀ B : Kept, (∀ i, i < G → B.old i) → CallOk P B call) {c : Code} (hc : codeOk nt G (drOf E 21) c = true)
    {B : Kept} (hG : ∀ i, i < G → B.old i) {k : PT Value → AHeap → Option Ans} {r : Ans} {m : MP} {h : AHeap} {w : World} {tm : PT Value} {a : Act} {Q : Exit → Act → World → Prop}
    (e : ev1 E call lf c tm h k = some r) (H : HRel B m h w) (T : TRel nt m tm a)
    (hk : ∀ S tm' h' m' w' a', k tm' h' = some r → Gr h m h' m' → HRel S m' h' w' → TRel nt m' tm' a' → Ends B S w w' a.defers a'.defers → Q .normal a' w') : c.wp P Q a w := by
  refine wpIn_wide.1 (show c.wpIn (FR none) 0 P Q a w from ?_)
  refine evCode_sound hE hI hcall (fun B hG => draw_sound hE hG (hcall B hG) _) lf c hG hc e H T (fun l el => by cases el) ?_
  intro S e1 tm' h' m' w' a' e' hk' hm H' T' hd hx
  cases hx with
  | normal => exact hk _ _ _ _ _ _ hk' hm H' T' hd
  | exit id => cases hk'
  | ret => cases hk'
  | panic hv => cases hk'

theorem lp21_sound (hE : E.Ok P G) (hI : ItsOk P E) (hcall : ∀ B : Kept, (∀ i, i < G → B.old i) → CallOk P B call) (h4 : codeOk nt G (drOf E 21) M4 = true) (h5 : codeOk nt G (drOf E 21) M5 = true) (hT : codeOk nt G (drOf E 21) TL = true) (h35 : 35 < nt)
    {kf : PT Value → AHeap → Option Ans} {r : Ans} {Q : Exit → Act → World → Prop} :
    ∀ (n : Nat) {B : Kept} {m : MP} {h : AHeap} {w : World} {tm : PT Value} {a : Act}, (∀ i, i < G → B.old i) → lp21 E call lf kf n tm h = some r → HRel B m h w → TRel nt m tm a →
      (∀ S tm' h' m' w' a', kf tm' h' = some r → Gr h m h' m' → HRel S m' h' w' → TRel nt m' tm' a' → Ends B S w w' a.defers a'.defers → Q .ret a' w') →
      rest1.wp P (fun e a w => match e with
        | .goto l => ∃ rest, findLabel sc21 l = some rest ∧ scopeRounds P sc21 Q (n + 1) rest a w
        | e => Q e a w) a w := by
  intro n
  induction n with
  | zero => intro B m h w tm a hG e; cases e
  | succ n ih =>
    intro B m h w tm a hG e H T hk
    unfold rest1
    refine wp_seq ?_
    refine wp_seq ?_
    refine ev1_sound hE hI hcall h4 hG e H T ?_
    intro S tm1 h1 m1 w1 a1 e1 g1 H1 T1 d1
    obtain ⟨b, eb, e2⟩ := ob_eq e1
    have hv := T1.slot 35 h35
    rw [bool?_eq eb] at hv
    have hv2 : a1.eval (.tmp 35) = .bool b := by
      have := hv.bool_inv
      simpa [Act.eval, Frame.eval] using this
    refine wp_cond hv2 ?_
    cases b with
    | true =>
      refine wp_goto ?_
      refine ⟨_, fl0, ?_⟩
      show (Code.seq .skip TL).wp P _ a1 w1
      refine wp_seq (wp_skip ?_)
      show TL.wp P _ a1 w1
      refine wpIn_wide.1 (show TL.wpIn (FR none) 0 P _ a1 w1 from ?_)
      have hG1 : ∀ i, i < G → S.old i := by rw [d1.old]; exact hG
      refine evCode_sound hE hI hcall (fun B hG => draw_sound hE hG (hcall B hG) _) lf TL hG1 hT e2 H1 T1 (fun l el => by cases el) ?_
      intro S' x tm' h' m' w' a' e' hk' hm H' T' hd hx
      cases hx with
      | normal => cases hk'
      | exit id => cases hk'
      | ret => exact hk _ _ _ _ _ _ hk' (g1.trans hm) H' T' (d1.trans hd)
      | panic hv => cases hk'
    | false =>
      refine wp_skip ?_
      show (Code.seq M5 _).wp P _ a1 w1
      refine wp_seq ?_
      have hG1 : ∀ i, i < G → S.old i := by rw [d1.old]; exact hG
      refine ev1_sound hE hI hcall h5 hG1 e2 H1 T1 ?_
      intro S2 tm2 h2 m2 w2 a2 e3 g2 H2 T2 d2
      show (Code.seq (.goto 1) _).wp P _ a2 w2
      refine wp_seq (wp_goto ?_)
      refine ⟨_, fl1, ?_⟩
      show (Code.seq .skip rest1).wp P _ a2 w2
      refine wp_seq (wp_skip ?_)
      exact ih (by rw [d2.old]; exact hG1) e3 H2 T2 (fun S3 tm' h' m' w' a' hk' hm H' T' hd => hk _ _ _ _ _ _ hk' ((g1.trans g2).trans hm) H' T' ((d1.trans d2).trans hd))
end

noncomputable def X21 (E : Env) (call : Call) (lf : Nat) : Call := fun f args h => if f = 21 then run21 E call lf args h else none

theorem X21_ok {E : Env} {G : Nat} {call : Call} {lf : Nat} (hE : E.Ok Tryd.prog G) (hI : ItsOk Tryd.prog E) (hcall : ∀ B : Kept, (∀ i, i < G → B.old i) → CallOk Tryd.prog B call) (hc : [R0, M1, M2, M3, M4, M5, TL].all (codeOk Tryd.f21.ntmps G (drOf E 21)) = true) (h35 : 35 < Tryd.f21.ntmps)
    (hres : (Tryd.f21.results.toList.all fun x => match x with | .tmp t => Nat.blt t Tryd.f21.ntmps | .cell a _ => Nat.blt a Tryd.f21.ntmps) = true) (B : Kept) (hG : ∀ i, i < G → B.old i) : CallOk Tryd.prog B (X21 E call lf) := by
  intro f args h r e m w args' H hl
  unfold X21 at e
  split at e
  · rename_i hf
    subst hf
    simp only [List.all_cons, List.all_nil, Bool.and_true, Bool.and_eq_true] at hc
    obtain ⟨c0, c1, c2, c3, c4, c5, cT⟩ := hc
    refine (callsIn_wide (n := 0)).1 (callsIn_of_wp_marks (F := Fence.wide) Tryd.func21 b21 trivial (wpIn_wide.2 (wp_seq ?_)))
    unfold run21 at e
    refine ev1_sound hE hI hcall c0 hG e H (TRel.start hl _) ?_
    intro S1 tm1 h1 m1 w1 a1 e1 g1 H1 T1 d1
    have hG1 : ∀ i, i < G → S1.old i := by rw [d1.old]; exact hG
    show (Code.scope sc21).wp _ _ a1 w1
    refine wp_scope_rounds (lf + 2) ?_
    show sc21.wp _ _ a1 w1
    rw [sc21_eq]
    refine wp_seq ?_
    refine ev1_sound hE hI hcall c1 hG1 e1 H1 T1 ?_
    intro S2 tm2 h2 m2 w2 a2 e2 g2 H2 T2 d2
    have hG2 : ∀ i, i < G → S2.old i := by rw [d2.old]; exact hG1
    refine wp_seq (ev1_sound hE hI hcall c2 hG2 e2 H2 T2 ?_)
    intro S3 tm3 h3 m3 w3 a3 e3 g3 H3 T3 d3
    have hG3 : ∀ i, i < G → S3.old i := by rw [d3.old]; exact hG2
    refine wp_seq (ev1_sound hE hI hcall c3 hG3 e3 H3 T3 ?_)
    intro S4 tm4 h4 m4 w4 a4 e4 g4 H4 T4 d4
    have hG4 : ∀ i, i < G → S4.old i := by rw [d4.old]; exact hG3
    refine wp_seq (wp_label ?_)
    rw [← sc21_eq]
    refine lp21_sound hE hI hcall c4 c5 cT h35 lf hG4 e4 H4 T4 ?_
    intro S tm' h' m' w' a' hk hm H' T' d
    have hd := (((d1.trans d2).trans d3).trans d4).trans d
    have hg := (((g1.trans g2).trans g3).trans g4).trans hm
    obtain ⟨L, eL, nL, gL⟩ := hd.marks
    show LeavesInM Fence.wide 0 _ _ _ _ _ _ _
    rw [eL, List.append_nil]
    refine leaves_marks (B := B) (w1 := w) (fun q => by cases q) (fun w2 Hw2 hb2 => ?_) L nL gL H' hd.bel
    obtain ⟨vs, vs', q1, q2, q3⟩ := evRes_sound (P := Tryd.prog) hE Hw2 T' _ hres hk
    simp only [Option.some.injEq] at q1
    subst q1
    refine ⟨_, ?_, ⟨m', hg, Hw2.less hd.old hd.own, retOf_rel q2, hb2⟩⟩
    rw [results_eq]
    simp only [Array.mapM_eq_mapM_toList, Sem.run_bind, Sem.run_map, q3, Result.andThen_ok, Sem.run_pure]
  · cases e
end Go.Amb
