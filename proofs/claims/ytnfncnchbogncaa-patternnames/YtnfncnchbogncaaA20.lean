/- The abstract machine, part 20: all of it. -/
import Derived.Test.YtnfncnchbogncaaA18
import Derived.Test.YtnfncnchbogncaaA19
namespace Go.Amb
/-- What the abstract machine answers, the program answers. -/
theorem evF_ok {P : Program} {E : Env} {G B : Nat} (hE : E.Ok P G) (hG : G ≤ B) {X : Call} (hX : CallOk P B X) (n : Nat) : CallOk P B (evF E X n) :=
  evF_sound hE hG hX (fun _ D hc => draw_sound hE hG hc D) n
end Go.Amb
