/- Part of the proof by the abstract machine: no claim of its own. -/
import Derived.Test.YtnfncnchbogncaaDoorU1
import Derived.Test.YtnfncnchbogncaaDoorJ0
import Derived.KernelRfl
set_option linter.unusedSimpArgs false
set_option linter.unusedVariables false
set_option linter.unnecessarySimpa false
set_option linter.unusedSectionVars false
set_option maxRecDepth 1000000
set_option linter.unusedVariables false
namespace Go.Amb
open Go.Proofs
theorem tk1 : ti1.Ok Tryd.prog 1 := TI.Ok.of (by kernel_rfl) (by kernel_rfl) (by kernel_rfl)
theorem tk2 : ti2.Ok Tryd.prog 2 := TI.Ok.of (by kernel_rfl) (by kernel_rfl) (by kernel_rfl)
theorem tk3 : ti3.Ok Tryd.prog 3 := TI.Ok.of (by kernel_rfl) (by kernel_rfl) (by kernel_rfl)
theorem tk4 : ti4.Ok Tryd.prog 4 := TI.Ok.of (by kernel_rfl) (by kernel_rfl) (by kernel_rfl)
theorem tk5 : ti5.Ok Tryd.prog 5 := TI.Ok.of (by kernel_rfl) (by kernel_rfl) (by kernel_rfl)
theorem tk6 : ti6.Ok Tryd.prog 6 := TI.Ok.of (by kernel_rfl) (by kernel_rfl) (by kernel_rfl)
theorem tk7 : ti7.Ok Tryd.prog 7 := TI.Ok.of (by kernel_rfl) (by kernel_rfl) (by kernel_rfl)
theorem tk8 : ti8.Ok Tryd.prog 8 := TI.Ok.of (by kernel_rfl) (by kernel_rfl) (by kernel_rfl)
theorem tk9 : ti9.Ok Tryd.prog 9 := TI.Ok.of (by kernel_rfl) (by kernel_rfl) (by kernel_rfl)
theorem tk10 : ti10.Ok Tryd.prog 10 := TI.Ok.of (by kernel_rfl) (by kernel_rfl) (by kernel_rfl)
theorem tk11 : ti11.Ok Tryd.prog 11 := TI.Ok.of (by kernel_rfl) (by kernel_rfl) (by kernel_rfl)
theorem tk12 : ti12.Ok Tryd.prog 12 := TI.Ok.of (by kernel_rfl) (by kernel_rfl) (by kernel_rfl)
theorem tk13 : ti13.Ok Tryd.prog 13 := TI.Ok.of (by kernel_rfl) (by kernel_rfl) (by kernel_rfl)
theorem tk14 : ti14.Ok Tryd.prog 14 := TI.Ok.of (by kernel_rfl) (by kernel_rfl) (by kernel_rfl)
theorem tk15 : ti15.Ok Tryd.prog 15 := TI.Ok.of (by kernel_rfl) (by kernel_rfl) (by kernel_rfl)
theorem tk16 : ti16.Ok Tryd.prog 16 := TI.Ok.of (by kernel_rfl) (by kernel_rfl) (by kernel_rfl)
theorem tk17 : ti17.Ok Tryd.prog 17 := TI.Ok.of (by kernel_rfl) (by kernel_rfl) (by kernel_rfl)
theorem tk18 : ti18.Ok Tryd.prog 18 := TI.Ok.of (by kernel_rfl) (by kernel_rfl) (by kernel_rfl)
theorem tk19 : ti19.Ok Tryd.prog 19 := TI.Ok.of (by kernel_rfl) (by kernel_rfl) (by kernel_rfl)
theorem tk20 : ti20.Ok Tryd.prog 20 := TI.Ok.of (by kernel_rfl) (by kernel_rfl) (by kernel_rfl)
theorem tk21 : ti21.Ok Tryd.prog 21 := TI.Ok.of (by kernel_rfl) (by kernel_rfl) (by kernel_rfl)
theorem tk22 : ti22.Ok Tryd.prog 22 := TI.Ok.of (by kernel_rfl) (by kernel_rfl) (by kernel_rfl)
theorem tk23 : ti23.Ok Tryd.prog 23 := TI.Ok.of (by kernel_rfl) (by kernel_rfl) (by kernel_rfl)
theorem tk24 : ti24.Ok Tryd.prog 24 := TI.Ok.of (by kernel_rfl) (by kernel_rfl) (by kernel_rfl)
theorem tk25 : ti25.Ok Tryd.prog 25 := TI.Ok.of (by kernel_rfl) (by kernel_rfl) (by kernel_rfl)
theorem tk26 : ti26.Ok Tryd.prog 26 := TI.Ok.of (by kernel_rfl) (by kernel_rfl) (by kernel_rfl)
theorem tk27 : ti27.Ok Tryd.prog 27 := TI.Ok.of (by kernel_rfl) (by kernel_rfl) (by kernel_rfl)
theorem tk28 : ti28.Ok Tryd.prog 28 := TI.Ok.of (by kernel_rfl) (by kernel_rfl) (by kernel_rfl)
theorem tk29 : ti29.Ok Tryd.prog 29 := TI.Ok.of (by kernel_rfl) (by kernel_rfl) (by kernel_rfl)
theorem tk30 : ti30.Ok Tryd.prog 30 := TI.Ok.of (by kernel_rfl) (by kernel_rfl) (by kernel_rfl)
theorem tk32 : ti32.Ok Tryd.prog 32 := TI.Ok.of (by kernel_rfl) (by kernel_rfl) (by kernel_rfl)
theorem tk33 : ti33.Ok Tryd.prog 33 := TI.Ok.of (by kernel_rfl) (by kernel_rfl) (by kernel_rfl)
theorem tk34 : ti34.Ok Tryd.prog 34 := TI.Ok.of (by kernel_rfl) (by kernel_rfl) (by kernel_rfl)
theorem tk35 : ti35.Ok Tryd.prog 35 := TI.Ok.of (by kernel_rfl) (by kernel_rfl) (by kernel_rfl)
theorem tk36 : ti36.Ok Tryd.prog 36 := TI.Ok.of (by kernel_rfl) (by kernel_rfl) (by kernel_rfl)
theorem tk37 : ti37.Ok Tryd.prog 37 := TI.Ok.of (by kernel_rfl) (by kernel_rfl) (by kernel_rfl)
theorem tk38 : ti38.Ok Tryd.prog 38 := TI.Ok.of (by kernel_rfl) (by kernel_rfl) (by kernel_rfl)
theorem tk39 : ti39.Ok Tryd.prog 39 := TI.Ok.of (by kernel_rfl) (by kernel_rfl) (by kernel_rfl)
theorem tk40 : ti40.Ok Tryd.prog 40 := TI.Ok.of (by kernel_rfl) (by kernel_rfl) (by kernel_rfl)
theorem tk41 : ti41.Ok Tryd.prog 41 := TI.Ok.of (by kernel_rfl) (by kernel_rfl) (by kernel_rfl)
theorem tk42 : ti42.Ok Tryd.prog 42 := TI.Ok.of (by kernel_rfl) (by kernel_rfl) (by kernel_rfl)
theorem tk43 : ti43.Ok Tryd.prog 43 := TI.Ok.of (by kernel_rfl) (by kernel_rfl) (by kernel_rfl)
theorem tk44 : ti44.Ok Tryd.prog 44 := TI.Ok.of (by kernel_rfl) (by kernel_rfl) (by kernel_rfl)
theorem tk46 : ti46.Ok Tryd.prog 46 := TI.Ok.of (by kernel_rfl) (by kernel_rfl) (by kernel_rfl)
theorem tk47 : ti47.Ok Tryd.prog 47 := TI.Ok.of (by kernel_rfl) (by kernel_rfl) (by kernel_rfl)
theorem tk48 : ti48.Ok Tryd.prog 48 := TI.Ok.of (by kernel_rfl) (by kernel_rfl) (by kernel_rfl)
theorem tk49 : ti49.Ok Tryd.prog 49 := TI.Ok.of (by kernel_rfl) (by kernel_rfl) (by kernel_rfl)
theorem tk50 : ti50.Ok Tryd.prog 50 := TI.Ok.of (by kernel_rfl) (by kernel_rfl) (by kernel_rfl)
theorem tk51 : ti51.Ok Tryd.prog 51 := TI.Ok.of (by kernel_rfl) (by kernel_rfl) (by kernel_rfl)
theorem tk52 : ti52.Ok Tryd.prog 52 := TI.Ok.of (by kernel_rfl) (by kernel_rfl) (by kernel_rfl)
theorem tk53 : ti53.Ok Tryd.prog 53 := TI.Ok.of (by kernel_rfl) (by kernel_rfl) (by kernel_rfl)
theorem tk54 : ti54.Ok Tryd.prog 54 := TI.Ok.of (by kernel_rfl) (by kernel_rfl) (by kernel_rfl)
theorem tk55 : ti55.Ok Tryd.prog 55 := TI.Ok.of (by kernel_rfl) (by kernel_rfl) (by kernel_rfl)
theorem tk56 : ti56.Ok Tryd.prog 56 := TI.Ok.of (by kernel_rfl) (by kernel_rfl) (by kernel_rfl)
theorem tk57 : ti57.Ok Tryd.prog 57 := TI.Ok.of (by kernel_rfl) (by kernel_rfl) (by kernel_rfl)
theorem tk58 : ti58.Ok Tryd.prog 58 := TI.Ok.of (by kernel_rfl) (by kernel_rfl) (by kernel_rfl)
theorem tk59 : ti59.Ok Tryd.prog 59 := TI.Ok.of (by kernel_rfl) (by kernel_rfl) (by kernel_rfl)
theorem tk60 : ti60.Ok Tryd.prog 60 := TI.Ok.of (by kernel_rfl) (by kernel_rfl) (by kernel_rfl)
theorem tk61 : ti61.Ok Tryd.prog 61 := TI.Ok.of (by kernel_rfl) (by kernel_rfl) (by kernel_rfl)
theorem tk62 : ti62.Ok Tryd.prog 62 := TI.Ok.of (by kernel_rfl) (by kernel_rfl) (by kernel_rfl)
theorem tk63 : ti63.Ok Tryd.prog 63 := TI.Ok.of (by kernel_rfl) (by kernel_rfl) (by kernel_rfl)
theorem tk64 : ti64.Ok Tryd.prog 64 := TI.Ok.of (by kernel_rfl) (by kernel_rfl) (by kernel_rfl)
theorem tk65 : ti65.Ok Tryd.prog 65 := TI.Ok.of (by kernel_rfl) (by kernel_rfl) (by kernel_rfl)
theorem tk66 : ti66.Ok Tryd.prog 66 := TI.Ok.of (by kernel_rfl) (by kernel_rfl) (by kernel_rfl)
theorem tk67 : ti67.Ok Tryd.prog 67 := TI.Ok.of (by kernel_rfl) (by kernel_rfl) (by kernel_rfl)
theorem tk68 : ti68.Ok Tryd.prog 68 := TI.Ok.of (by kernel_rfl) (by kernel_rfl) (by kernel_rfl)
theorem tk69 : ti69.Ok Tryd.prog 69 := TI.Ok.of (by kernel_rfl) (by kernel_rfl) (by kernel_rfl)
theorem tk70 : ti70.Ok Tryd.prog 70 := TI.Ok.of (by kernel_rfl) (by kernel_rfl) (by kernel_rfl)
theorem tk71 : ti71.Ok Tryd.prog 71 := TI.Ok.of (by kernel_rfl) (by kernel_rfl) (by kernel_rfl)
theorem tiList_ok : ∀ p ∈ tiList, p.2.Ok Tryd.prog p.1 := by
  unfold tiList
  refine List.forall_mem_cons.2 ⟨tk1, ?_⟩
  refine List.forall_mem_cons.2 ⟨tk2, ?_⟩
  refine List.forall_mem_cons.2 ⟨tk3, ?_⟩
  refine List.forall_mem_cons.2 ⟨tk4, ?_⟩
  refine List.forall_mem_cons.2 ⟨tk5, ?_⟩
  refine List.forall_mem_cons.2 ⟨tk6, ?_⟩
  refine List.forall_mem_cons.2 ⟨tk7, ?_⟩
  refine List.forall_mem_cons.2 ⟨tk8, ?_⟩
  refine List.forall_mem_cons.2 ⟨tk9, ?_⟩
  refine List.forall_mem_cons.2 ⟨tk10, ?_⟩
  refine List.forall_mem_cons.2 ⟨tk11, ?_⟩
  refine List.forall_mem_cons.2 ⟨tk12, ?_⟩
  refine List.forall_mem_cons.2 ⟨tk13, ?_⟩
  refine List.forall_mem_cons.2 ⟨tk14, ?_⟩
  refine List.forall_mem_cons.2 ⟨tk15, ?_⟩
  refine List.forall_mem_cons.2 ⟨tk16, ?_⟩
  refine List.forall_mem_cons.2 ⟨tk17, ?_⟩
  refine List.forall_mem_cons.2 ⟨tk18, ?_⟩
  refine List.forall_mem_cons.2 ⟨tk19, ?_⟩
  refine List.forall_mem_cons.2 ⟨tk20, ?_⟩
  refine List.forall_mem_cons.2 ⟨tk21, ?_⟩
  refine List.forall_mem_cons.2 ⟨tk22, ?_⟩
  refine List.forall_mem_cons.2 ⟨tk23, ?_⟩
  refine List.forall_mem_cons.2 ⟨tk24, ?_⟩
  refine List.forall_mem_cons.2 ⟨tk25, ?_⟩
  refine List.forall_mem_cons.2 ⟨tk26, ?_⟩
  refine List.forall_mem_cons.2 ⟨tk27, ?_⟩
  refine List.forall_mem_cons.2 ⟨tk28, ?_⟩
  refine List.forall_mem_cons.2 ⟨tk29, ?_⟩
  refine List.forall_mem_cons.2 ⟨tk30, ?_⟩
  refine List.forall_mem_cons.2 ⟨tk32, ?_⟩
  refine List.forall_mem_cons.2 ⟨tk33, ?_⟩
  refine List.forall_mem_cons.2 ⟨tk34, ?_⟩
  refine List.forall_mem_cons.2 ⟨tk35, ?_⟩
  refine List.forall_mem_cons.2 ⟨tk36, ?_⟩
  refine List.forall_mem_cons.2 ⟨tk37, ?_⟩
  refine List.forall_mem_cons.2 ⟨tk38, ?_⟩
  refine List.forall_mem_cons.2 ⟨tk39, ?_⟩
  refine List.forall_mem_cons.2 ⟨tk40, ?_⟩
  refine List.forall_mem_cons.2 ⟨tk41, ?_⟩
  refine List.forall_mem_cons.2 ⟨tk42, ?_⟩
  refine List.forall_mem_cons.2 ⟨tk43, ?_⟩
  refine List.forall_mem_cons.2 ⟨tk44, ?_⟩
  refine List.forall_mem_cons.2 ⟨tk46, ?_⟩
  refine List.forall_mem_cons.2 ⟨tk47, ?_⟩
  refine List.forall_mem_cons.2 ⟨tk48, ?_⟩
  refine List.forall_mem_cons.2 ⟨tk49, ?_⟩
  refine List.forall_mem_cons.2 ⟨tk50, ?_⟩
  refine List.forall_mem_cons.2 ⟨tk51, ?_⟩
  refine List.forall_mem_cons.2 ⟨tk52, ?_⟩
  refine List.forall_mem_cons.2 ⟨tk53, ?_⟩
  refine List.forall_mem_cons.2 ⟨tk54, ?_⟩
  refine List.forall_mem_cons.2 ⟨tk55, ?_⟩
  refine List.forall_mem_cons.2 ⟨tk56, ?_⟩
  refine List.forall_mem_cons.2 ⟨tk57, ?_⟩
  refine List.forall_mem_cons.2 ⟨tk58, ?_⟩
  refine List.forall_mem_cons.2 ⟨tk59, ?_⟩
  refine List.forall_mem_cons.2 ⟨tk60, ?_⟩
  refine List.forall_mem_cons.2 ⟨tk61, ?_⟩
  refine List.forall_mem_cons.2 ⟨tk62, ?_⟩
  refine List.forall_mem_cons.2 ⟨tk63, ?_⟩
  refine List.forall_mem_cons.2 ⟨tk64, ?_⟩
  refine List.forall_mem_cons.2 ⟨tk65, ?_⟩
  refine List.forall_mem_cons.2 ⟨tk66, ?_⟩
  refine List.forall_mem_cons.2 ⟨tk67, ?_⟩
  refine List.forall_mem_cons.2 ⟨tk68, ?_⟩
  refine List.forall_mem_cons.2 ⟨tk69, ?_⟩
  refine List.forall_mem_cons.2 ⟨tk70, ?_⟩
  refine List.forall_mem_cons.2 ⟨tk71, ?_⟩
  intro p hp; cases hp
def FOk (p : Nat × Func) : Prop := Tryd.prog.funcs[p.1]? = some p.2 ∧ funcOk 2 (drOf (U0 []) p.1) p.2 = true
theorem fk2 : FOk (2, Tryd.f2) := ⟨Tryd.func2, by kernel_rfl⟩
theorem fk3 : FOk (3, Tryd.f3) := ⟨Tryd.func3, by kernel_rfl⟩
theorem fk4 : FOk (4, Tryd.f4) := ⟨Tryd.func4, by kernel_rfl⟩
theorem fk5 : FOk (5, Tryd.f5) := ⟨Tryd.func5, by kernel_rfl⟩
theorem fk6 : FOk (6, Tryd.f6) := ⟨Tryd.func6, by kernel_rfl⟩
theorem fk7 : FOk (7, Tryd.f7) := ⟨Tryd.func7, by kernel_rfl⟩
theorem fk8 : FOk (8, Tryd.f8) := ⟨Tryd.func8, by kernel_rfl⟩
theorem fk9 : FOk (9, Tryd.f9) := ⟨Tryd.func9, by kernel_rfl⟩
theorem fk10 : FOk (10, Tryd.f10) := ⟨Tryd.func10, by kernel_rfl⟩
theorem fk11 : FOk (11, Tryd.f11) := ⟨Tryd.func11, by kernel_rfl⟩
theorem fk12 : FOk (12, Tryd.f12) := ⟨Tryd.func12, by kernel_rfl⟩
theorem fk13 : FOk (13, Tryd.f13) := ⟨Tryd.func13, by kernel_rfl⟩
theorem fk14 : FOk (14, Tryd.f14) := ⟨Tryd.func14, by kernel_rfl⟩
theorem fk15 : FOk (15, Tryd.f15) := ⟨Tryd.func15, by kernel_rfl⟩
theorem fk16 : FOk (16, Tryd.f16) := ⟨Tryd.func16, by kernel_rfl⟩
theorem fk17 : FOk (17, Tryd.f17) := ⟨Tryd.func17, by kernel_rfl⟩
theorem fk18 : FOk (18, Tryd.f18) := ⟨Tryd.func18, by kernel_rfl⟩
theorem fk19 : FOk (19, Tryd.f19) := ⟨Tryd.func19, by kernel_rfl⟩
theorem fk20 : FOk (20, Tryd.f20) := ⟨Tryd.func20, by kernel_rfl⟩
theorem fk21 : FOk (21, Tryd.f21) := ⟨Tryd.func21, by kernel_rfl⟩
theorem fk22 : FOk (22, Tryd.f22) := ⟨Tryd.func22, by kernel_rfl⟩
theorem fk23 : FOk (23, Tryd.f23) := ⟨Tryd.func23, by kernel_rfl⟩
theorem fk24 : FOk (24, Tryd.f24) := ⟨Tryd.func24, by kernel_rfl⟩
theorem fk25 : FOk (25, Tryd.f25) := ⟨Tryd.func25, by kernel_rfl⟩
theorem fk26 : FOk (26, Tryd.f26) := ⟨Tryd.func26, by kernel_rfl⟩
theorem fk27 : FOk (27, Tryd.f27) := ⟨Tryd.func27, by kernel_rfl⟩
theorem fk28 : FOk (28, Tryd.f28) := ⟨Tryd.func28, by kernel_rfl⟩
theorem fk29 : FOk (29, Tryd.f29) := ⟨Tryd.func29, by kernel_rfl⟩
theorem fk50 : FOk (50, Tryd.f50) := ⟨Tryd.func50, by kernel_rfl⟩
theorem fnList_ok : ∀ p ∈ fnList, FOk p := by
  unfold fnList
  refine List.forall_mem_cons.2 ⟨fk2, ?_⟩
  refine List.forall_mem_cons.2 ⟨fk3, ?_⟩
  refine List.forall_mem_cons.2 ⟨fk4, ?_⟩
  refine List.forall_mem_cons.2 ⟨fk5, ?_⟩
  refine List.forall_mem_cons.2 ⟨fk6, ?_⟩
  refine List.forall_mem_cons.2 ⟨fk7, ?_⟩
  refine List.forall_mem_cons.2 ⟨fk8, ?_⟩
  refine List.forall_mem_cons.2 ⟨fk9, ?_⟩
  refine List.forall_mem_cons.2 ⟨fk10, ?_⟩
  refine List.forall_mem_cons.2 ⟨fk11, ?_⟩
  refine List.forall_mem_cons.2 ⟨fk12, ?_⟩
  refine List.forall_mem_cons.2 ⟨fk13, ?_⟩
  refine List.forall_mem_cons.2 ⟨fk14, ?_⟩
  refine List.forall_mem_cons.2 ⟨fk15, ?_⟩
  refine List.forall_mem_cons.2 ⟨fk16, ?_⟩
  refine List.forall_mem_cons.2 ⟨fk17, ?_⟩
  refine List.forall_mem_cons.2 ⟨fk18, ?_⟩
  refine List.forall_mem_cons.2 ⟨fk19, ?_⟩
  refine List.forall_mem_cons.2 ⟨fk20, ?_⟩
  refine List.forall_mem_cons.2 ⟨fk21, ?_⟩
  refine List.forall_mem_cons.2 ⟨fk22, ?_⟩
  refine List.forall_mem_cons.2 ⟨fk23, ?_⟩
  refine List.forall_mem_cons.2 ⟨fk24, ?_⟩
  refine List.forall_mem_cons.2 ⟨fk25, ?_⟩
  refine List.forall_mem_cons.2 ⟨fk26, ?_⟩
  refine List.forall_mem_cons.2 ⟨fk27, ?_⟩
  refine List.forall_mem_cons.2 ⟨fk28, ?_⟩
  refine List.forall_mem_cons.2 ⟨fk29, ?_⟩
  refine List.forall_mem_cons.2 ⟨fk50, ?_⟩
  intro p hp; cases hp
theorem U0_ok (ext : List (Nat × Unit)) : (U0 ext).Ok Tryd.prog 2   := {
  ti := fun t i h => tiList_ok (t, i) (PT.get_ofList h),
  fn := fun f g h => fnList_ok (f, g) (PT.get_ofList h),
  mixed := by kernel_rfl }
end Go.Amb
