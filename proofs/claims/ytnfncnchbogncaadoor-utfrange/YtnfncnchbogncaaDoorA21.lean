/- Part of the proof by the abstract machine: no claim of its own. -/
import Derived.Test.YtnfncnchbogncaaDoorA20
import Derived.Below
set_option linter.unusedSimpArgs false
set_option linter.unusedVariables false
set_option linter.unnecessarySimpa false
set_option linter.unusedSectionVars false
/- The abstract machine, part 21: where it begins: every block that is there stays as it is. -/
namespace Go.Amb
open Go.RowKit

/-- The first heap: nothing is known of what is there. -/
def h0 : AHeap := { base := fun _ => .gone, upd := .leaf, next := lim + 1 }
def m0 (w : World) : MP := fun i => if i < lim ∧ i < w.heap.size then some { b := i, o := 0, ext := 0, csz := 1, opn := none } else none
theorem hrel0 (w : World) : HRel (Kept.upto w.heap.size) (m0 w) h0 w := by
  have hg : ∀ i, h0.get i = .gone := fun i => rfl
  refine ⟨fun i r _ => by rw [hg]; trivial, fun i j r s _ _ _ _ h _ => absurd (hg i) h, fun i r e => ?_, fun k hk => Kept.upto_iff.1 hk, fun i hi hl => ?_, ⟨by unfold m0; rw [if_neg (by omega)], by show lim < lim + 1; omega⟩, fun _ _ _ h => h⟩
  · unfold m0 at e
    split at e
    · rename_i h; cases e; exact ⟨by show i < lim + 1; omega, h.2⟩
    · cases e
  · exact ⟨_, by unfold m0; rw [if_pos ⟨hl, hi⟩], rfl, rfl⟩

noncomputable def isTrue : Option Ans → Bool
  | some (.ret (.bool true) _) => true
  | _ => false
/-- A closed call that the machine answers with true. -/
theorem closed_true {P : Program} {call : Call} {f : FuncId} (hc : ∀ B : Kept, CallOk P B call) (ht : isTrue (call f [] h0) = true) (w : World) :
    Calls P f #[] w fun e w' => e = .returned (.bool true) ∧ Below w.heap.size w w' := by
  cases hr : call f [] h0 with
  | none => rw [hr] at ht; cases ht
  | some r =>
    rw [hr] at ht
    have := hc (Kept.upto w.heap.size) f [] h0 r hr (m0 w) w [] (hrel0 w) ⟨rfl, fun i v v' h => by simp at h⟩
    refine Calls.mono this fun e w' he => ?_
    cases r with
    | panic v h => cases ht
    | ret v h =>
      cases e with
      | returned v' =>
        obtain ⟨m', _, _, hv, hb⟩ := he
        have hv0 : v = .bool true := by
          unfold isTrue at ht
          split at ht
          · rename_i q hq; cases hq; rfl
          · cases ht
        subst hv0
        exact ⟨by rw [hv.bool_inv], hb.below⟩
      | _ => cases he
end Go.Amb
