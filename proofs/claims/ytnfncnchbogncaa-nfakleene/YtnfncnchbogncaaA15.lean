/- Part of the proof by the abstract machine: no claim of its own. -/
import Derived.Test.YtnfncnchbogncaaA14
set_option linter.unusedSimpArgs false
set_option linter.unusedVariables false
set_option linter.unnecessarySimpa false
set_option linter.unusedSectionVars false
/- The abstract machine, part 15: any operation; a region in its written order; code. -/
set_option linter.unusedVariables false
namespace Go.Amb
open Go.RowKit

section
variable {P : Program} {E : Env} {G B nt : Nat}
variable {m : MP} {h : AHeap} {w : World} {tm : PT Value} {a : Act} {call : Call} {k kp : KV} {r : Ans}

theorem wp_of_res {o : Oper} {next : Act → World → Prop} {Q : Exit → Act → World → Prop} (hr : OpRes P B m h w (execOp a.eval o) k r)
    (hk : ∀ v h' m' w' v', k v h' = some r → Gr h m h' m' → HRel B m' h' w' → VRel m' v v' → Below B w w' → next (a.put o.dst v') w') : o.wp P a w next Q := by
  obtain ⟨v, h', m', w', v', h1, h2, h3, h4, h5, h6⟩ := hr
  unfold Oper.wp
  rcases h6 with h6 | ⟨e, h6⟩
  · rw [h6]; exact hk _ _ _ _ _ h1 h2 h3 h4 h5
  · subst e; rw [h6]; exact hk _ _ _ _ _ h1 h2 h3 h4 h5

theorem callFunc_enter (hE : E.Ok P G) {f : FuncId} {fn : Func} (hf : E.fn.get f = some fn) (args : Array Value) (w : World) : (callFunc f args).run P w = .ok (.enter f args) w := by
  obtain ⟨h1, h2⟩ := hE.fn f fn hf
  unfold funcOk at h2
  simp only [Bool.and_eq_true] at h2
  obtain ⟨⟨h3, _⟩, h4⟩ := h2
  cases hb : fn.body with
  | none => rw [hb] at h3; cases h3
  | some c =>
    have h5 : fn.name ≠ "runtime.NumGoroutine" := by simpa using h4
    simp [callFunc, h1, h5, hb]

theorem op_call (hE : E.Ok P G) (hG : G ≤ B) (hcall : CallOk P B call) (H : HRel B m h w) (T : TRel nt m tm a) {c : Go.Call} {f : Operand} {o : Oper} (ho : o.op = .call c) (hc : c.callee = .value f) (hf : xOk nt G f = true) (hx : c.args.toList.all (xOk nt G) = true)
    {next : Act → World → Prop} {Q : Exit → Act → World → Prop}
    (e : evOp E call o.op tm h k kp = some r)
    (hk : ∀ v h' m' w' v', k v h' = some r → Gr h m h' m' → HRel B m' h' w' → VRel m' v v' → Below B w w' → next (a.put o.dst v') w')
    (hkp : ∀ v h' m' w' v', kp v h' = some r → Gr h m h' m' → HRel B m' h' w' → VRel m' v v' → Below B w w' → Q (.panic [{ v := v', recovered := false }]) a w') : o.wp P a w next Q := by
  rw [ho] at e
  simp only [evOp, opCall, opCallV, hc] at e
  split at e
  · rename_i g first cap hs
    have hv := T.opnd H hG hf
    rw [hs] at hv
    have hform : ∃ first' cap', a.eval f = .func (.func g) first' cap' ∧ LRel m first.toList first'.toList ∧ LRel m cap.toList cap'.toList := by
      generalize a.eval f = q at hv
      cases hv with
      | func _ _ a' _ c' ha ra hcc rc => exact ⟨a', c', rfl, ⟨by simpa using ha, fun i v v' x y => ra i v v' (by simpa using x) (by simpa using y)⟩, ⟨by simpa using hcc, fun i v v' x y => rc i v v' (by simpa using x) (by simpa using y)⟩⟩
    obtain ⟨first', cap', hfe, hl1, hl2⟩ := hform
    obtain ⟨fn, efn, e1⟩ := ob_eq e
    have hargs : LRel m (first.toList ++ c.args.toList.map (opnd tm) ++ cap.toList) (first'.toList ++ c.args.toList.map a.eval ++ cap'.toList) := (hl1.append (LRel.mapA hG H T hx)).append hl2
    have hrun : (execOp a.eval o).run P w = .ok (.enter g (first'.toList ++ c.args.toList.map a.eval ++ cap'.toList).toArray) w := by
      simp only [execOp, ho, resolve, hc, hfe, Deferred.ofValue, Sem.run_bind, Sem.run_pure, Result.andThen_ok, invoke]
      rw [callFunc_enter hE efn]
      congr 2
      apply Array.ext'
      simp
    unfold Oper.wp
    rw [hrun]
    have hans : call g (first.toList ++ c.args.toList.map (opnd tm) ++ cap.toList) h ≠ none := by
      intro hn; rw [hn] at e1; cases e1
    cases hcr : call g (first.toList ++ c.args.toList.map (opnd tm) ++ cap.toList) h with
    | none => exact absurd hcr hans
    | some an =>
      rw [hcr] at e1
      have hC := hcall _ _ _ _ hcr m w _ H hargs
      refine Calls.mono hC fun en w' hp => ?_
      cases an with
      | ret v h' =>
        cases en with
        | returned v' =>
          obtain ⟨m', g1, g2, g3, g4⟩ := hp
          exact hk _ _ _ _ _ (asRet_eq (show asRet E fn.resultTypes.toList v (fun v' => k v' h') = some r from e1)) g1 g2 g3 g4
        | panicked ch => exact hp.elim
        | outgrown => exact hp.elim
      | panic v h' =>
        cases en with
        | returned v' => exact hp.elim
        | panicked ch =>
          obtain ⟨m', v', g0, g1, g2, g3, g4⟩ := hp
          subst g0
          exact hkp _ _ _ _ _ e1 g1 g2 g3 g4
        | outgrown => exact hp.elim
  · cases e

theorem op_panic (hG : G ≤ B) (H : HRel B m h w) (T : TRel nt m tm a) {x : Operand} {o : Oper} (ho : o.op = .panic x) (hx : xOk nt G x = true)
    {next : Act → World → Prop} {Q : Exit → Act → World → Prop} (e : evOp E call o.op tm h k kp = some r)
    (hkp : ∀ v h' m' w' v', kp v h' = some r → Gr h m h' m' → HRel B m' h' w' → VRel m' v v' → Below B w w' → Q (.panic [{ v := v', recovered := false }]) a w') : o.wp P a w next Q := by
  rw [ho] at e
  simp only [evOp, opPanic] at e
  have hv := T.opnd H hG hx
  split at e
  · rename_i t v hs
    rw [hs] at hv
    have hv0 := hv
    obtain ⟨v', h1, h2⟩ := hv.iface_inv
    unfold Oper.wp
    have : (execOp a.eval o).run P w = .halt (.panic (.iface t v')) w := by simp [execOp, ho, h1, Instr.panic]
    rw [this]
    exact hkp _ _ _ _ _ e (Gr.refl h m) H (.iface t v v' h2) (Below.refl B w)
  · cases e

theorem all_mem {nt G : Nat} {xs : Array Operand} (h : xs.toList.all (xOk nt G) = true) {x : Operand} (hx : x ∈ xs) : xOk nt G x = true := List.all_eq_true.1 h x (Array.mem_toList_iff.2 hx)

theorem evOp_sound (hE : E.Ok P G) (hG : G ≤ B) (hcall : CallOk P B call) (H : HRel B m h w) (T : TRel nt m tm a) {o : Oper} (hx : o.op.operands.toList.all (xOk nt G) = true)
    {next : Act → World → Prop} {Q : Exit → Act → World → Prop} (e : evOp E call o.op tm h k kp = some r)
    (hk : ∀ v h' m' w' v', k v h' = some r → Gr h m h' m' → HRel B m' h' w' → VRel m' v v' → Below B w w' → next (a.put o.dst v') w')
    (hkp : ∀ v h' m' w' v', kp v h' = some r → Gr h m h' m' → HRel B m' h' w' → VRel m' v v' → Below B w w' → Q (.panic [{ v := v', recovered := false }]) a w') : o.wp P a w next Q := by
  cases ho : o.op with
  | move x => rw [ho] at hx; exact wp_of_res (op_move hG H T (.inl ho) (all_mem hx (by simp [Op.operands])) e) hk
  | assign x => rw [ho] at hx; exact wp_of_res (op_move hG H T (.inr ho) (all_mem hx (by simp [Op.operands])) e) hk
  | pick c x y => rw [ho] at hx; exact wp_of_res (op_pick hG H T ho (all_mem hx (by simp [Op.operands])) (all_mem hx (by simp [Op.operands])) (all_mem hx (by simp [Op.operands])) e) hk
  | alloc t => exact wp_of_res (op_alloc hE H ho e) hk
  | box t x => rw [ho] at hx; exact wp_of_res (op_box hE hG H T ho (all_mem hx (by simp [Op.operands])) e) hk
  | build t ps =>
    rw [ho] at hx
    exact wp_of_res (op_build hE hG H T ho (fun p hp => all_mem hx (by simp only [Op.operands, List.mem_toArray, List.mem_map]; exact ⟨p, hp, rfl⟩)) e) hk
  | buildSlice t n ps =>
    rw [ho] at hx
    exact wp_of_res (op_buildSlice hE hG H T ho (fun p hp => all_mem hx (by simp only [Op.operands, List.mem_toArray, List.mem_map]; exact ⟨p, hp, rfl⟩)) e) hk
  | load t x => rw [ho] at hx; exact wp_of_res (op_load hE hG H T ho (all_mem hx (by simp [Op.operands])) e) hk
  | store t x y => rw [ho] at hx; exact wp_of_res (op_store hE hG H T ho (all_mem hx (by simp [Op.operands])) (all_mem hx (by simp [Op.operands])) e) hk
  | nilCheck x => rw [ho] at hx; exact wp_of_res (op_nilCheck hG H T ho (all_mem hx (by simp [Op.operands])) e) hk
  | binOp op t x y ty => rw [ho] at hx; exact wp_of_res (op_binOp hE hG H T ho (all_mem hx (by simp [Op.operands])) (all_mem hx (by simp [Op.operands])) e) hk
  | unOp op t x => rw [ho] at hx; exact wp_of_res (op_unOp hG H T ho (all_mem hx (by simp [Op.operands])) e) hk
  | convert s d x => rw [ho] at hx; exact wp_of_res (op_convert hE hG H T ho (all_mem hx (by simp [Op.operands])) e) hk
  | makeInterface t x => rw [ho] at hx; exact wp_of_res (op_makeInterface hE hG H T ho (all_mem hx (by simp [Op.operands])) e) hk
  | makeFunc fn xs ys => rw [ho] at hx; exact wp_of_res (op_makeFunc hG H T ho hx e) hk
  | makeMap t rs =>
    cases rs with
    | none => exact wp_of_res (op_makeMap H ho e) hk
    | some rs => rw [ho] at e; cases e
  | makeSlice t x y => rw [ho] at hx; exact wp_of_res (op_makeSlice hE hG H T ho (all_mem hx (by simp [Op.operands])) (all_mem hx (by simp [Op.operands])) e) hk
  | slice t x lo hi mx =>
    rw [ho] at hx
    exact wp_of_res (op_slice hE hG H T ho (all_mem hx (by simp [Op.operands])) (fun y hy => all_mem hx (by subst hy; simp [Op.operands])) (fun y hy => all_mem hx (by subst hy; simp [Op.operands])) (fun y hy => all_mem hx (by subst hy; simp [Op.operands])) e) hk
  | fieldAddr t x f => rw [ho] at hx; exact wp_of_res (op_fieldAddr hE hG H T ho (all_mem hx (by simp [Op.operands])) e) hk
  | field t x f => rw [ho] at hx; exact wp_of_res (op_field hE hG H T ho (all_mem hx (by simp [Op.operands])) e) hk
  | indexAddr t x y => rw [ho] at hx; exact wp_of_res (op_indexAddr hE hG H T ho (all_mem hx (by simp [Op.operands])) (all_mem hx (by simp [Op.operands])) e) hk
  | index t x y => rw [ho] at hx; exact wp_of_res (op_index hE hG H T ho (all_mem hx (by simp [Op.operands])) (all_mem hx (by simp [Op.operands])) e) hk
  | lookup t x y ok => rw [ho] at hx; exact wp_of_res (op_lookup hE hG H T ho (all_mem hx (by simp [Op.operands])) (all_mem hx (by simp [Op.operands])) e) hk
  | mapUpdate t x y z => rw [ho] at hx; exact wp_of_res (op_mapUpdate hE hG H T (.inl ho) (all_mem hx (by simp [Op.operands])) (all_mem hx (by simp [Op.operands])) (all_mem hx (by simp [Op.operands])) e) hk
  | insert t x y z => rw [ho] at hx; exact wp_of_res (op_mapUpdate hE hG H T (.inr ho) (all_mem hx (by simp [Op.operands])) (all_mem hx (by simp [Op.operands])) (all_mem hx (by simp [Op.operands])) e) hk
  | range t x => rw [ho] at hx; exact wp_of_res (op_range hE hG H T ho (all_mem hx (by simp [Op.operands])) e) hk
  | next x s =>
    cases s with
    | true => rw [ho] at hx; exact wp_of_res (op_next hG H T ho (all_mem hx (by simp [Op.operands])) e) hk
    | false => rw [ho] at e; cases e
  | typeAssert x xt t ok => rw [ho] at hx; exact wp_of_res (op_typeAssert hE hG H T ho (all_mem hx (by simp [Op.operands])) e) hk
  | extract x i => rw [ho] at hx; exact wp_of_res (op_extract hG H T ho (all_mem hx (by simp [Op.operands])) e) hk
  | panic x => rw [ho] at hx; exact op_panic hG H T ho (all_mem hx (by simp [Op.operands])) e hkp
  | call c =>
    rw [ho] at hx
    cases hc : c.callee with
    | builtin b =>
      exact wp_of_res (op_builtin hE hG H T ho hc (List.all_eq_true.2 fun x hxx => all_mem hx (by simp only [Op.operands, Call.operands, hc]; simpa using hxx)) e) hk
    | value f =>
      exact op_call hE hG hcall H T ho hc (all_mem hx (by simp [Op.operands, Call.operands, hc])) (List.all_eq_true.2 fun x hxx => all_mem hx (by simp only [Op.operands, Call.operands, hc]; simp; right; simpa using hxx)) e hk hkp
    | invoke rv mn => rw [ho] at e; simp only [evOp, opCall, hc] at e; cases e
  | ready g => rw [ho] at e; cases e
  | waits g => rw [ho] at e; cases e
  | sliceToArrayPointer d x => rw [ho] at e; cases e
  | makeChan t s => rw [ho] at e; cases e
  | mapEntry t x y => rw [ho] at e; cases e
  | entryStore t x y z => rw [ho] at e; cases e
  | entry x => rw [ho] at e; cases e
  | go c => rw [ho] at e; cases e
  | defer c => rw [ho] at e; cases e
  | send c x => rw [ho] at e; cases e
  | recv t c b => rw [ho] at e; cases e
  | select cs b => rw [ho] at e; cases e

end
end Go.Amb
