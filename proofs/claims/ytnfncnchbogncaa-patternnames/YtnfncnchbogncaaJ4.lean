/- pattern.Parse for the abstract machine: what it is told to be, it is. -/
import Derived.Test.YtnfncnchbogncaaJ3
set_option linter.unusedVariables false
set_option maxRecDepth 100000
namespace Go.Amb
open Go.RowKit Go.Proofs

section
variable {E : Env} {G B : Nat}

theorem fin_sound (hE : E.Ok Try.prog G) {nt : Nat} {tm : PT Value} {h h₀ : AHeap} {r : Ans} {m m₀ : MP} {w w₀ : World} {a : Act} (hres : (Try.f78.results.toList.all fun r => match r with | .tmp t => Nat.blt t nt | .cell a _ => Nat.blt a nt) = true)
    (e : fin E Try.f78.results.toList tm h = some r) (H : HRel B m h w) (T : TRel nt m tm a) (hg : Gr h₀ m₀ h m) (hb : Below B w₀ w) :
    ∃ v, (results Try.f78 a.tmps).run Try.prog w = .ok v w ∧ Post B m₀ h₀ w₀ r (.returned v) w := by
  unfold fin at e
  obtain ⟨vs, vs', h1, h2, h3⟩ := evRes_sound (P := Try.prog) hE H T _ hres e
  simp only [Option.some.injEq] at h1
  subst h1
  refine ⟨_, ?_, ⟨m, hg, H, retOf_rel h2, hb⟩⟩
  rw [results_eq]
  simp only [Array.mapM_eq_mapM_toList, Sem.run_bind, Sem.run_map, h3, Result.andThen_ok, Sem.run_pure]

end
end Go.Amb
