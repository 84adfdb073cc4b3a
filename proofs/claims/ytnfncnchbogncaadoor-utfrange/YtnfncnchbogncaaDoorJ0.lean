/- Part of the proof by the abstract machine: no claim of its own. -/
import Derived.Test.YtnfncnchbogncaaDoorA3
set_option linter.unusedSimpArgs false
set_option linter.unusedVariables false
set_option linter.unnecessarySimpa false
set_option linter.unusedSectionVars false
/- The tables are the program's: what is to be checked of each. -/
namespace Go.Amb
theorem TI.Ok.of {P : Program} {t : TypeId} {i : TI} (hd : P.underlying t = some i.d) (hi : (P.info? t).map (fun j => (j.size, j.bytes, j.zero)) = some (i.lk.length, i.bytes, some i.zero))
    (hb : ((i.agg == (match i.d with | .struct _ | .array _ _ => true | _ => false)) && cOk i.zero && Nat.beq i.zero.cells.size i.lk.length && (!i.eqs || (!P.stoodInHeld t && !P.eqGuardType P.depth t)) &&
      (match i.d with | .struct fs => fs.toList.all fun f => (P.info? f.type).isSome | _ => true)) = true) : i.Ok P t := by
  simp only [Bool.and_eq_true] at hb
  obtain ⟨⟨⟨⟨h1, h2⟩, h3⟩, h4⟩, h5⟩ := hb
  refine ⟨hd, ?_, by rw [beq_iff_eq] at h1; rw [h1]; cases i.d <;> rfl, ⟨h2, Nat.eq_of_beq_eq_true h3⟩, fun he => ?_, fun fs hf => ?_⟩
  · obtain ⟨j, hj, e⟩ := Option.map_eq_some_iff.1 hi
    simp only [Prod.mk.injEq] at e
    exact ⟨j, hj, e.1, e.2.1, e.2.2⟩
  · rw [he] at h4
    simp only [Bool.not_true, Bool.false_or, Bool.and_eq_true, Bool.not_eq_true'] at h4
    exact h4
  · rw [hf] at h5; exact h5
end Go.Amb
