/- Part of the proof by the abstract machine: no claim of its own. -/
import Derived.Test.YtnfncnchbogncaaDoorU17
import GoSem.PinnedTables
import Derived.KernelRfl
set_option linter.unusedSimpArgs false
set_option linter.unusedVariables false
set_option linter.unnecessarySimpa false
set_option linter.unusedSectionVars false
/- kerflaw01.live, evaluated by the kernel: the two tables of utf8 told. -/
set_option maxRecDepth 1000000
namespace Go.Amb
open Go.Proofs
def firstL : List Value := Go.Pinned.utf8FirstZ.map fun n : Nat => Value.int .u8 (n : Int)
def accL : List Value := [128, 191, 160, 191, 128, 159, 144, 191, 128, 143, 0, 0, 0, 0, 0, 0, 0, 0, 0, 0, 0, 0, 0, 0, 0, 0, 0, 0, 0, 0, 0, 0].map fun n : Int => Value.int .u8 n
def baseU (e0 e1 : TypeId) : Nat → AObj
  | 0 => .cells firstL e0 none true
  | 1 => .cells accL e1 none true
  | _ => .gone
def hU (e0 e1 : TypeId) : AHeap := { base := baseU e0 e1, upd := .leaf, next := lim + 1 }
def Tab (h : AHeap) : Prop := ∃ e0 e1, h.get 0 = .cells firstL e0 none true ∧ h.get 1 = .cells accL e1 none true
def X0 : Call := fun _ _ _ => none
theorem X0_ok (P : Program) (B : Kept) : CallOk P B X0 := fun f args h r e => by cases e
noncomputable def XL : Call := X21 (U0 []) (evF (U0 []) X0 100) 100
theorem XL_ok (B : Kept) (hG : ∀ i, i < 2 → B.old i) : CallOk Tryd.prog B XL :=
  X21_ok (U0_ok []) (itsOk_leaf rfl) (fun B hG => evF_ok (U0_ok []) hG (fun B _ => X0_ok _ B) 100) (by kernel_rfl) (by rw [Tryd.ntmps21]; decide) (by kernel_rfl) B hG
theorem live01 (e0 e1 : TypeId) : isTrue (evF (U0 [(21, ())]) XL 1000 4 [] (hU e0 e1)) = true := by kernel_rfl
end Go.Amb
