/- Part of the proof by the abstract machine: no claim of its own. -/
import Derived.Test.YtnfncnchbogncaaA18
import Derived.Test.YtnfncnchbogncaaA19
set_option linter.unusedSimpArgs false
set_option linter.unusedVariables false
set_option linter.unnecessarySimpa false
set_option linter.unusedSectionVars false
/- The abstract machine, part 20: all of it. -/
namespace Go.Amb
/-- What the abstract machine answers, the program answers. -/
theorem evF_ok {P : Program} {E : Env} {G B : Nat} (hE : E.Ok P G) (hG : G ≤ B) {X : Call} (hX : CallOk P B X) (n : Nat) : CallOk P B (evF E X n) :=
  evF_sound hE hG hX (fun _ D hc => draw_sound hE hG hc D) n
end Go.Amb
