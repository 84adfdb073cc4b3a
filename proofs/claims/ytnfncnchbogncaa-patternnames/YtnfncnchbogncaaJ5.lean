/- Part of the proof by the abstract machine: no claim of its own. -/
import Derived.Test.YtnfncnchbogncaaJ4
set_option linter.unusedVariables false
set_option maxRecDepth 100000
namespace Go.Amb
open Go.RowKit Go.Proofs
noncomputable def opsOf : Code → Array Oper
  | .region _ ops _ => ops
  | _ => #[]
noncomputable def oAt (ops : Array Oper) (i : Nat) : Oper := match ops[i]? with
  | some o => o
  | none => default
theorem hS1 : S1 = .region 0 (opsOf S1) false := by kernel_rfl
theorem hS1a : (opsOf S1)[0]? = some (oAt (opsOf S1) 0) := by kernel_rfl
theorem hS1b : (opsOf S1)[1]? = some (oAt (opsOf S1) 1) := by kernel_rfl
theorem hS1n : (opsOf S1).size = 2 := by kernel_rfl
theorem hop0 : (oAt (opsOf S1) 0).op = .call { callee := .builtin .recover, args := #[], argTypes := #[] } := by kernel_rfl
theorem hop1 : (oAt (opsOf S1) 1).op = .assign (.tmp 6) := by kernel_rfl
theorem hd0 : (oAt (opsOf S1) 0).dst = some 6 := by kernel_rfl
theorem hd1 : (oAt (opsOf S1) 1).dst = some 3 := by kernel_rfl
theorem hg0 : (oAt (opsOf S1) 0).guard = none := by kernel_rfl
theorem hg1 : (oAt (opsOf S1) 1).guard = none := by kernel_rfl
theorem rec_run (a : Act) (w : World) : (execOp a.eval (oAt (opsOf S1) 0)).run Try.prog w = .ok .recover w := by
  simp only [execOp, hop0]
  simp [go_sem, resolve]
theorem asg_run (a : Act) (w : World) : (execOp a.eval (oAt (opsOf S1) 1)).run Try.prog w = .ok (.value (a.eval (.tmp 6))) w := by
  simp only [execOp, hop1]
  simp [go_sem]
noncomputable def oR6a : Oper := oAt (opsOf R6) 0
noncomputable def oR6b : Oper := oAt (opsOf R6) 1
theorem hR6 : R6 = .region 6 (opsOf R6) false := by kernel_rfl
theorem hR6n : (opsOf R6).size = 2 := by kernel_rfl
theorem hR6a : (opsOf R6)[0]? = some oR6a := by kernel_rfl
theorem hR6b : (opsOf R6)[1]? = some oR6b := by kernel_rfl
theorem hR6oa : oR6a.op = .makeFunc (.func 121) #[] #[.tmp 4, .tmp 5, .tmp 6] := by kernel_rfl
theorem hR6ob : oR6b.op = .defer { callee := .value (.tmp 22), args := #[], argTypes := #[] } := by kernel_rfl
theorem hR6da : oR6a.dst = some 22 := by kernel_rfl
theorem hR6db : oR6b.dst = none := by kernel_rfl
theorem hR6ga : oR6a.guard = none := by kernel_rfl
theorem hR6gb : oR6b.guard = none := by kernel_rfl
theorem mk_run (a : Act) (w : World) : (execOp a.eval oR6a).run Try.prog w = .ok (.value (.func (.func 121) #[] #[a.eval (.tmp 4), a.eval (.tmp 5), a.eval (.tmp 6)])) w := by
  simp only [execOp, hR6oa]
  simp [go_sem]
  try rfl
theorem df_run (ρ : Operand → Value) (w : World) (caps : Array Value) (h : ρ (.tmp 22) = .func (.func 121) #[] caps) : (execOp ρ oR6b).run Try.prog w = .ok (.defer { target := .fn (.func 121) caps, args := #[] }) w := by
  simp only [execOp, hR6ob]
  simp [go_sem, resolve, h]
theorem S2_eq : S2 = .seq (sl S2) (sr S2) := by kernel_rfl
noncomputable def condX : Code → Code
  | .cond _ x _ => x
  | c => c
theorem S2b_eq : sr S2 = .cond (.tmp 8) (condX (sr S2)) .skip := by kernel_rfl
theorem hN : sl S2 = .region 1 (opsOf (sl S2)) false := by kernel_rfl
theorem hNn : (opsOf (sl S2)).size = 2 := by kernel_rfl
noncomputable def oNa : Oper := oAt (opsOf (sl S2)) 0
noncomputable def oNb : Oper := oAt (opsOf (sl S2)) 1
theorem hNa : (opsOf (sl S2))[0]? = some oNa := by kernel_rfl
theorem hNb : (opsOf (sl S2))[1]? = some oNb := by kernel_rfl
theorem hNoa : oNa.op = .move (.tmp 3) := by kernel_rfl
theorem hNob : oNb.op = .binOp .neq 20 (.tmp 7) (.const .nilIface) 20 := by kernel_rfl
theorem hNda : oNa.dst = some 7 := by kernel_rfl
theorem hNdb : oNb.dst = some 8 := by kernel_rfl
theorem hNga : oNa.guard = none := by kernel_rfl
theorem hNgb : oNb.guard = none := by kernel_rfl
theorem mv_run (a : Act) (w : World) : (execOp a.eval oNa).run Try.prog w = .ok (.value (a.eval (.tmp 3))) w := by
  simp only [execOp, hNoa]
  simp [go_sem]
theorem neq_run (ρ : Operand → Value) (w : World) (h : ρ (.tmp 7) = .nilIface) (e2 : ρ (.const .nilIface) = .nilIface) : (execOp ρ oNb).run Try.prog w = .ok (.value (.bool false)) w := by
  simp only [execOp, hNob, h, e2]
  have hu : (underlying 20).run Try.prog w = .ok (.interface #[]) w := by simp [underlying, Try.underlying20]
  have e1 : (Op.equal 20 .nilIface .nilIface).run Try.prog w = .ok true w := by
    show (Op.equalIn (9998 + 1 + 1) 20 .nilIface .nilIface).run Try.prog w = .ok true w
    generalize 9998 = d
    simp [Op.equalIn, hu]
  simp [eqGuard, binOp, e1]
end Go.Amb
