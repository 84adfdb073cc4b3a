/- Part of the proof by the abstract machine: no claim of its own. -/
import Derived.Test.YtnfncnchbogncaaDoorA18
import Derived.Test.YtnfncnchbogncaaDoorA19
set_option linter.unusedSimpArgs false
set_option linter.unusedVariables false
set_option linter.unnecessarySimpa false
set_option linter.unusedSectionVars false
/- The abstract machine, part 20: all of it. -/
namespace Go.Amb
/-- What the abstract machine answers, the program answers. -/
theorem evF_ok {P : Program} {E : Env} {G : Nat} {B : Kept} (hE : E.Ok P G) (hG : ∀ i, i < G → B.old i) {X : Call} (hX : ∀ B : Kept, (∀ i, i < G → B.old i) → CallOk P B X) (n : Nat) (hI : ItsOk P E := by exact itsOk_leaf rfl) : CallOk P B (evF E X n) :=
  evF_sound hE hI hX (fun _ D hc B hG => draw_sound hE hG (hc B hG) D) n B hG
end Go.Amb
