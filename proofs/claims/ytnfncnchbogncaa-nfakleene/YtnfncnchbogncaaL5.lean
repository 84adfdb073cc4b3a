/- Part of the proof by the abstract machine: no claim of its own. -/
import Derived.Test.YtnfncnchbogncaaE5
import Derived.Test.YtnfncnchbogncaaA21
import Derived.Test.YtnfncnchbogncaaA20
import Derived.KernelRfl
set_option linter.unusedSimpArgs false
set_option linter.unusedVariables false
set_option linter.unnecessarySimpa false
set_option linter.unusedSectionVars false
/- kerflaw06.live, evaluated by the kernel. -/
set_option maxRecDepth 100000
namespace Go.Amb
open Go.RowKit
open Go.Proofs
def X0 : Call := fun _ _ _ => none
theorem X0_ok (P : Program) (B : Nat) : CallOk P B X0 := fun f args h r e => by cases e
theorem wv_ok (B : Nat) : CallOk Try.prog B (wv X0 1000) := by
  rw [wv_eq]
  exact evF_ok (E0_ok _) (Nat.zero_le B) (X0_ok _ B) 1000
noncomputable def E33 : Env := E0 [(65, ()), (28, ()), (66, ()), (67, ()), (68, ()), (35, ()), (69, ()), (30, ())]
theorem live06 : isTrue (evF E33 (wv X0 1000) 2 33 [] h0) = true := by kernel_rfl
theorem live33 (w : World) : Calls Try.prog 33 #[] w fun e w' => e = .returned (.bool true) ∧ Below w.heap.size w w' :=
  closed_true (fun B => evF_ok (E0_ok _) (Nat.zero_le B) (wv_ok B) 2) live06 w
end Go.Amb
