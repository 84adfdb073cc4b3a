/- Part of the proof by the abstract machine: no claim of its own. -/
import Derived.Test.YtnfncnchbogncaaKD
import Derived.Test.YtnfncnchbogncaaL
import Derived.Test.YtnfncnchbogncaaL5
import Derived.Test.YtnfncnchbogncaaRows
import Derived.WalkKit
import Derived.ProofKit
import Derived.OpenShut
set_option linter.unusedSimpArgs false
set_option linter.unusedVariables false
set_option linter.unnecessarySimpa false
set_option linter.unusedSectionVars false
/- 'Rows.NfaKleeneSaid': the walk by the abstract machine; the row's step as the skeleton writes it. -/
namespace Go.Amb
open Go.RowKit
open Go.Proofs
theorem nfaKleene_walk (hl : ∀ w, Calls Try.prog 33 #[] w fun e w' => e = .returned (.bool true) ∧ Below w.heap.size w w') {H : Type} (enc : TypeId × Value → H) (w : World) {n n' : Nat} {v u : Value} {x y : DataW H × List MemPlace} (hv : ∃ a b c, v = .agg #[a, b, c]) (h : DataW.trod enc Try.prog w 0 (fun _ => true) true n 64 v.cells.toList = some x)
    (h' : DataW.trod enc Try.prog w 0 (fun _ => true) true n' 52 [u] = some y) :
    Calls Try.prog 5 #[v, u] w fun e w' => e = .returned (.bool true) ∧ Below w.heap.size w w' := by
  obtain ⟨a', b', c', rfl⟩ := hv
  obtain ⟨m, h1, p, a, b, c, E, L, A, R⟩ := load_pat pt64 n h ⟨hrelI w, hI_lim⟩
  obtain ⟨m2, h2, u', l, E2, L2, A2, R2⟩ := load_ints pt64 h' L
  have A' : PatAt h2.next h2 p a b c := (A.frame (fun i hi => E2.keep i hi) p).mono E2.next p
  obtain ⟨h3, e, _⟩ := ev5 X33 (fun h => by unfold X33; rw [if_pos ⟨rfl, rfl⟩]) (p.wt + 2000000) A' A2 (Nat.le_refl _) (Nat.le_refl _)
  refine open_true (fun B => evF_ok (E0_ok _) (Nat.zero_le B) (X33_ok hl B) _) e L2.rel ?_
  exact .cons (LRel.agg (R.mono E2.le)) (.cons R2 (.nil _))
end Go.Amb
namespace Go.Proofs.Ytnfncnchbogncaa.nfaKleene
open Go.ChangeShapes Go.WideShapes Go.ChangeAt Go.RowKit
set_option linter.unusedVariables false

theorem own : ownKnob Try.prog.godebug = none := by kernel_rfl
theorem laid : laidOutB Try.prog = true := by kernel_rfl
theorem reads64 : Try.prog.readableRec 64 = true := by kernel_rfl
theorem reads52 : Try.prog.readableRec 52 = true := by kernel_rfl

set_option maxRecDepth 100000 in
theorem lifted (os : Os) (started : os.Started) (H : Type) (enc : TypeId × Value → H) :
    ReturnsInHanded {} Try.checked os 5 .any (Rows.nfaKleeneSpec.pre6 enc Try.prog Try.f5 Rows.nfaKleeneRow.domain false) (Rows.nfaKleeneSpec.post enc Try.prog Try.f5 false true false false) := by
  refine returnsInHanded_of_change (C := Try.checked) own started (by kernel_rfl) Try.func5
    (ChangeSpec.witness6 (enc := enc) (C := Try.checked) false ⟨#[], #[.agg #[.int .i64 0, .slice none 0 0, .slice none 0 0], .slice none 0 0], []⟩ 8 (by kernel_rfl) (by kernel_rfl) (by kernel_rfl) (by kernel_rfl)) ?_
  intro W base args ds gs before hval0 hW hcnd _
  have hval : ∀ (j : Nat) t v, Try.f5.params[j]? = some t → args[j]? = some v → Value.okWide Try.prog W .any base t v := hval0
  have hW' := hW
  have hlt := hW.lt
  obtain ⟨p, q, hA0, hV, rfl, hfz, hnd⟩ := hW
  have hA : DataW.TrodAll enc Try.prog W 0 (fun _ => true) true Try.f5.params.toList args.toList ds p := hA0
  rw [Try.params5] at hA hval
  obtain ⟨v, u, d, d', p1, p2, rfl, rfl, rfl, hT, hU⟩ := trodAll_two hA
  obtain ⟨rfl, rfl⟩ := trodVars_none hV
  clear hA0 hval0
  simp only [List.append_nil] at hW' hlt
  obtain ⟨cs, hcs, hsz⟩ := okWide_struct Amb.pt64.u64 (hval 0 64 v rfl rfl)
  rw [Amb.pt64.c64] at hsz
  have hv : ∃ a b c, v = .agg #[a, b, c] := by
    obtain ⟨l⟩ := cs
    match l, hsz with
    | [a, b, c], _ => exact ⟨a, b, c, hcs⟩
  obtain ⟨fuel, hT'⟩ := id hT
  obtain ⟨fuel', hU'⟩ := id hU
  have hu : u.cells.toList = [u] := by
    obtain ⟨a, l, c, rfl, _⟩ := okWide_slice Amb.pt64.u52 (hval 1 52 u rfl rfl)
    rfl
  rw [hu] at hU'
  refine (Amb.nfaKleene_walk Amb.live33 enc W hv hT' hU').mono fun e W' ⟨he, hb⟩ => ?_
  subst he
  have hT2 := Below.trod laid reads64 (of_decide_eq_true (by kernel_rfl)) hT hb (fun x hx => hlt x (List.mem_append_left _ hx))
  have hU2 := Below.trod laid reads52 (of_decide_eq_true (by kernel_rfl)) hU hb (fun x hx => hlt x (List.mem_append_right _ hx))
  exact ⟨_, rfl, ⟨[d, d'], [], p1 ++ p2, [], p1 ++ p2, [], hW', trodAll_cons_mk (shut_bool Try.underlying4 _) trodAll_mk0, trodAll_mk2 hT2 hU2, rfl, hb.frame _, fun h => by cases h⟩⟩

theorem proved : Rows.NfaKleeneSaid :=
  OpenClaim.holds_of_wide 5 Try.f5 rfl rfl rfl rfl rfl rfl rfl ⟨rfl, rfl, rfl, rfl, rfl⟩ rfl rfl rfl rfl rfl (by kernel_rfl) Try.func5 (by kernel_rfl)
    (of_decide_eq_true (by kernel_rfl)) (by unfold Func.isWrapper; first | (rw [if_pos (by decide +kernel)]; kernel_rfl) | (rw [if_neg (by decide +kernel)]; exact ⟨rfl, rfl⟩))
    (fun os started H enc _ => lifted os started H enc)
end Go.Proofs.Ytnfncnchbogncaa.nfaKleene
#print axioms Go.Proofs.Ytnfncnchbogncaa.nfaKleene.proved
