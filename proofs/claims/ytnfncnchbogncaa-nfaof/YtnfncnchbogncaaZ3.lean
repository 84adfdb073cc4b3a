/- Part of the proof by the abstract machine: no claim of its own. -/
import Derived.Test.YtnfncnchbogncaaL
import Derived.Test.YtnfncnchbogncaaRows
import Derived.WalkKit
import Derived.ProofKit
import Derived.OpenShut
set_option linter.unusedSimpArgs false
set_option linter.unusedVariables false
set_option linter.unnecessarySimpa false
set_option linter.unusedSectionVars false
/- 'Rows.NfaOfSaid': the walk by the abstract machine; the row's step as the skeleton writes it. -/
namespace Go.Proofs.Ytnfncnchbogncaa.nfaOf
open Go.ChangeShapes Go.WideShapes Go.ChangeAt Go.RowKit
set_option linter.unusedVariables false

theorem own : ownKnob Try.prog.godebug = none := by kernel_rfl
theorem laid : laidOutB Try.prog = true := by kernel_rfl
theorem reads64 : Try.prog.readableRec 64 = true := by kernel_rfl

def Live : Prop := ∀ w, Calls Try.prog 33 #[] w fun e w' => e = .returned (.bool true) ∧ Below w.heap.size w w'

set_option maxRecDepth 100000 in
theorem lifted (live : Live) (os : Os) (started : os.Started) (H : Type) (enc : TypeId × Value → H) :
    ReturnsInHanded {} Try.checked os 4 .any (Rows.nfaOfSpec.pre6 enc Try.prog Try.f4 Rows.nfaOfRow.domain false) (Rows.nfaOfSpec.post enc Try.prog Try.f4 false true false false) := by
  refine returnsInHanded_of_change (C := Try.checked) own started (by kernel_rfl) Try.func4
    (ChangeSpec.witness6 (enc := enc) (C := Try.checked) false ⟨#[], #[.agg #[.int .i64 0, .slice none 0 0, .slice none 0 0]], []⟩ 8 (by kernel_rfl) (by kernel_rfl) (by kernel_rfl) (by kernel_rfl)) ?_
  intro W base args ds gs before hval0 hW hcnd _
  have hval : ∀ (j : Nat) t v, Try.f4.params[j]? = some t → args[j]? = some v → Value.okWide Try.prog W .any base t v := hval0
  have hW' := hW
  have hlt := hW.lt
  obtain ⟨p, q, hA0, hV, rfl, hfz, hnd⟩ := hW
  have hA : DataW.TrodAll enc Try.prog W 0 (fun _ => true) true Try.f4.params.toList args.toList ds p := hA0
  rw [Try.params4] at hA hval
  obtain ⟨v, d, rfl, rfl, hT⟩ := trodAll_one hA
  obtain ⟨rfl, rfl⟩ := trodVars_none hV
  clear hA0 hval0
  simp only [List.append_nil] at hW' hlt
  obtain ⟨cs, hcs, hsz⟩ := okWide_struct Amb.pt64.u64 (hval 0 64 v rfl rfl)
  rw [Amb.pt64.c64] at hsz
  have hv : ∃ a b c, v = .agg #[a, b, c] := by
    obtain ⟨l⟩ := cs
    match l, hsz with
    | [a, b, c], _ => exact ⟨a, b, c, hcs⟩
  obtain ⟨fuel, hT'⟩ := id hT
  refine (Amb.nfaOf_walk live enc W hv hT').mono fun e W' ⟨he, hb⟩ => ?_
  subst he
  have hT2 := Below.trod laid reads64 (of_decide_eq_true (by kernel_rfl)) hT hb (fun x hx => hlt x hx)
  exact ⟨_, rfl, ⟨[d], [], p, [], p, [], hW', trodAll_cons_mk (shut_bool Try.underlying4 _) trodAll_mk0, trodAll_mk1 hT2, rfl, hb.frame _, fun h => by cases h⟩⟩

theorem over (live : Live) : Rows.nfaOfRow.holds Try.pinned (OpenSpec.ofChange Rows.nfaOfSpec) :=
  OpenClaim.holds_of_wide 4 Try.f4 rfl rfl rfl rfl rfl rfl rfl ⟨rfl, rfl, rfl, rfl, rfl⟩ rfl rfl rfl rfl rfl (by kernel_rfl) Try.func4 (by kernel_rfl)
    (of_decide_eq_true (by kernel_rfl)) (by unfold Func.isWrapper; first | (rw [if_pos (by decide +kernel)]; kernel_rfl) | (rw [if_neg (by decide +kernel)]; exact ⟨rfl, rfl⟩))
    (fun os started H enc _ => lifted live os started H enc)
end Go.Proofs.Ytnfncnchbogncaa.nfaOf
