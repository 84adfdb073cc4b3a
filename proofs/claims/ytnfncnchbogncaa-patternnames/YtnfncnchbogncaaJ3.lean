/- pattern.Parse for the abstract machine: a deferred function that recovers. -/
import Derived.Test.YtnfncnchbogncaaJ2
import Derived.Test.YtnfncnchbogncaaE1
import Derived.Recover
import Derived.Tactics
import Derived.KernelRfl
set_option linter.unusedVariables false
set_option maxRecDepth 100000
namespace Go.Amb
open Go.RowKit Go.Proofs

def sq (E : Env) (call : Call) (draw : Nat → Array Oper → PT Value → AHeap → KX → Option Ans) (n : Nat) (c : Code) (ret next : PT Value → AHeap → Option Ans) (tm : PT Value) (h : AHeap) : Option Ans :=
  evCode E call draw n c tm h fun e tm h => match e with
    | .normal => next tm h
    | .ret => ret tm h
    | _ => none

section
variable {P : Program} {E : Env} {G B nt : Nat}
theorem sq_sound (hE : E.Ok P G) (hG : G ≤ B) {call : Call} (hcall : CallOk P B call) {D : Dr} {n : Nat} {x y : Code} {ret next : PT Value → AHeap → Option Ans} {tm : PT Value} {h : AHeap} {r : Ans} {m : MP} {w : World} {a : Act} {Q : Exit → Act → World → Prop}
    (e : sq E call (evDraw E call D) n x ret next tm h = some r) (hc : codeOk nt G D x = true) (H : HRel B m h w) (T : TRel nt m tm a)
    (hret : ∀ tm' h' m' w' a', ret tm' h' = some r → Gr h m h' m' → HRel B m' h' w' → TRel nt m' tm' a' → a'.defers = a.defers → Below B w w' → Q .ret a' w')
    (hnext : ∀ tm' h' m' w' a', next tm' h' = some r → Gr h m h' m' → HRel B m' h' w' → TRel nt m' tm' a' → a'.defers = a.defers → Below B w w' → y.wp P Q a' w') : (Code.seq x y).wp P Q a w := by
  refine wp_seq (evCode_sound hE hG hcall (draw_sound hE hG hcall D) n x e hc H T ?_)
  intro e1 tm' h' m' w' a' e' hk' hm H' T' hd hb hx
  cases hx with
  | normal => exact hnext _ _ _ _ _ hk' hm H' T' hd hb
  | exit id => cases hk'
  | ret => exact hret _ _ _ _ _ hk' hm H' T' hd hb
  | panic hv => cases hk'
end

/-! ### The texts -/
def sl : Code → Code
  | .seq a _ => a
  | c => c
def sr : Code → Code
  | .seq _ b => b
  | c => c
noncomputable def c78 : Code := match Try.f78.body with
  | some c => c
  | none => .skip
noncomputable def A1 : Code := sl c78
noncomputable def A2 : Code := sl (sr c78)
noncomputable def A3 : Code := sl (sr (sr c78))
noncomputable def A4 : Code := sl (sr (sr (sr c78)))
noncomputable def R6 : Code := sl (sr (sr (sr (sr c78))))
noncomputable def RB : Code := sr (sr (sr (sr (sr c78))))
noncomputable def c121 : Code := match Try.f121.body with
  | some c => c
  | none => .skip
noncomputable def S1 : Code := sl c121
noncomputable def S2 : Code := sr c121
theorem b78 : Try.f78.body = some (.seq A1 (.seq A2 (.seq A3 (.seq A4 (.seq R6 RB))))) := by kernel_rfl
theorem b121 : Try.f121.body = some (.seq S1 S2) := by kernel_rfl

def fin (E : Env) (rs : List ResultVar) (tm : PT Value) (h : AHeap) : Option Ans := evRes E tm h rs fun l => some (.ret (retOf l) h)
/-- The deferred function, what it recovers told. -/
noncomputable def clo (E : Env) (call : Call) (n : Nat) (cs : List Value) (v : Value) (tm : PT Value) (h : AHeap) : Option Ans :=
  evCode E call (evDraw E call (drOf E 121)) n S2 (put (put (tm0 cs 0 .leaf) (some 6) v) (some 3) v) h fun e _ h => match e with
    | .normal | .ret => fin E Try.f78.results.toList tm h
    | _ => none
noncomputable def parseV (E : Env) (call : Call) (n : Nat) (args : List Value) (h : AHeap) : Option Ans :=
  let d := evDraw E call (drOf E 78)
  let f := fin E Try.f78.results.toList
  sq E call d n A1 f (sq E call d n A2 f (sq E call d n A3 f (sq E call d n A4 f fun tm h =>
    evCode E call d n RB (put tm (some 22) (.func (.func 121) #[] #[opnd tm (.tmp 4), opnd tm (.tmp 5), opnd tm (.tmp 6)])) h fun e tm' h' => match e with
      | .normal | .ret => f tm' h'
      | .panic (.iface t v) => clo E call n [opnd tm (.tmp 4), opnd tm (.tmp 5), opnd tm (.tmp 6)] (.iface t v) tm' h'
      | _ => none))) (tm0 args 0 .leaf) h

noncomputable def EE : Env := E0 [(78, ()), (146, ())]
noncomputable def XJ : Call := fun f args h => match Nat.beq f 146 with
  | true => joinV args h
  | false => none
noncomputable def XP (n : Nat) : Call := fun f args h => match Nat.beq f 78 with
  | true => parseV EE (evF EE XJ n) n args h
  | false => XJ f args h
end Go.Amb
