/- Part of the proof by the abstract machine: no claim of its own. -/
import Derived.Test.YtnfncnchbogncaaDoorA14
import Derived.OrdersIn
import Derived.RangeFuncCalls
import Derived.Laws.IdiomStrings
set_option linter.unusedSimpArgs false
set_option linter.unusedVariables false
set_option linter.unnecessarySimpa false
set_option linter.unusedSectionVars false
/- The abstract machine, part 15: any operation; a region in its written order; code. -/
set_option linter.unusedVariables false
namespace Go.Amb
open Go.RowKit

section
variable {P : Program} {E : Env} {G nt : Nat} {B : Kept}
variable {m : MP} {h : AHeap} {w : World} {tm : PT Value} {a : Act} {call : Call} {k kp : KV} {r : Ans}

theorem wp_of_res {o : Oper} {next : Act → World → Prop} {Q : Exit → Act → World → Prop} (hr : OpRes P B m h w (execOp a.eval o) k r)
    (hk : ∀ v h' m' w' v', k v h' = some r → Gr h m h' m' → HRel B m' h' w' → VRel m' v v' → Bel B w w' → next (a.put o.dst v') w') : o.wp P a w next Q := by
  obtain ⟨v, h', m', w', v', h1, h2, h3, h4, h5, h6⟩ := hr
  unfold Oper.wp
  rcases h6 with h6 | ⟨e, h6⟩
  · rw [h6]; exact hk _ _ _ _ _ h1 h2 h3 h4 h5
  · subst e; rw [h6]; exact hk _ _ _ _ _ h1 h2 h3 h4 h5

theorem callFunc_enter (hE : E.Ok P G) {f : FuncId} {fn : Func} (hf : E.fn.get f = some fn) (args : Array Value) (w : World) : (callFunc f args).run P w = .ok (.enter f args) w := by
  obtain ⟨h1, h2⟩ := hE.fn f fn hf
  unfold funcOk at h2
  simp only [Bool.and_eq_true] at h2
  obtain ⟨⟨h3, _⟩, h4⟩ := h2
  cases hb : fn.body with
  | none => rw [hb] at h3; cases h3
  | some c =>
    have h5 : fn.name ≠ "runtime.NumGoroutine" := by simpa using h4
    simp [callFunc, h1, h5, hb]

theorem op_call (hE : E.Ok P G) (hG : ∀ i, i < G → B.old i) (hcall : CallOk P B call) (H : HRel B m h w) (T : TRel nt m tm a) {c : Go.Call} {f : Operand} {o : Oper} (ho : o.op = .call c) (hc : c.callee = .value f) (hf : xOk nt G f = true) (hx : c.args.toList.all (xOk nt G) = true)
    {next : Act → World → Prop} {Q : Exit → Act → World → Prop}
    (e : evOp E call o.op tm h k kp = some r)
    (hk : ∀ v h' m' w' v', k v h' = some r → Gr h m h' m' → HRel B m' h' w' → VRel m' v v' → Bel B w w' → next (a.put o.dst v') w')
    (hkp : ∀ v h' m' w' v', kp v h' = some r → Gr h m h' m' → HRel B m' h' w' → VRel m' v v' → Bel B w w' → Q (.panic [{ v := v', recovered := false }]) a w') : o.wp P a w next Q := by
  rw [ho] at e
  simp only [evOp, opCall, opCallV, hc] at e
  split at e
  · rename_i g first cap hs
    have hv := T.opnd H hG hf
    rw [hs] at hv
    have hform : ∃ first' cap', a.eval f = .func (.func g) first' cap' ∧ LRel m first.toList first'.toList ∧ LRel m cap.toList cap'.toList := by
      generalize a.eval f = q at hv
      cases hv with
      | func _ _ a' _ c' ha ra hcc rc => exact ⟨a', c', rfl, ⟨by simpa using ha, fun i v v' x y => ra i v v' (by simpa using x) (by simpa using y)⟩, ⟨by simpa using hcc, fun i v v' x y => rc i v v' (by simpa using x) (by simpa using y)⟩⟩
    obtain ⟨first', cap', hfe, hl1, hl2⟩ := hform
    obtain ⟨fn, efn, e1⟩ := ob_eq e
    have hargs : LRel m (first.toList ++ c.args.toList.map (opnd tm) ++ cap.toList) (first'.toList ++ c.args.toList.map a.eval ++ cap'.toList) := (hl1.append (LRel.mapA hG H T hx)).append hl2
    have hrun : (execOp a.eval o).run P w = .ok (.enter g (first'.toList ++ c.args.toList.map a.eval ++ cap'.toList).toArray) w := by
      simp only [execOp, ho, resolve, hc, hfe, Deferred.ofValue, Sem.run_bind, Sem.run_pure, Result.andThen_ok, invoke]
      rw [callFunc_enter hE efn]
      congr 2
      apply Array.ext'
      simp
    unfold Oper.wp
    rw [hrun]
    have hans : call g (first.toList ++ c.args.toList.map (opnd tm) ++ cap.toList) h ≠ none := by
      intro hn; rw [hn] at e1; cases e1
    cases hcr : call g (first.toList ++ c.args.toList.map (opnd tm) ++ cap.toList) h with
    | none => exact absurd hcr hans
    | some an =>
      rw [hcr] at e1
      have hC := hcall _ _ _ _ hcr m w _ H hargs
      refine Calls.mono hC fun en w' hp => ?_
      cases an with
      | ret v h' =>
        cases en with
        | returned v' =>
          obtain ⟨m', g1, g2, g3, g4⟩ := hp
          exact hk _ _ _ _ _ (asRet_eq (show asRet E fn.resultTypes.toList v (fun v' => k v' h') = some r from e1)) g1 g2 g3 g4
        | panicked ch => exact hp.elim
        | outgrown => exact hp.elim
      | panic v h' =>
        cases en with
        | returned v' => exact hp.elim
        | panicked ch =>
          obtain ⟨m', v', g0, g1, g2, g3, g4⟩ := hp
          subst g0
          exact hkp _ _ _ _ _ e1 g1 g2 g3 g4
        | outgrown => exact hp.elim
  · cases e

theorem op_panic (hG : ∀ i, i < G → B.old i) (H : HRel B m h w) (T : TRel nt m tm a) {x : Operand} {o : Oper} (ho : o.op = .panic x) (hx : xOk nt G x = true)
    {next : Act → World → Prop} {Q : Exit → Act → World → Prop} (e : evOp E call o.op tm h k kp = some r)
    (hkp : ∀ v h' m' w' v', kp v h' = some r → Gr h m h' m' → HRel B m' h' w' → VRel m' v v' → Bel B w w' → Q (.panic [{ v := v', recovered := false }]) a w') : o.wp P a w next Q := by
  rw [ho] at e
  simp only [evOp, opPanic] at e
  have hv := T.opnd H hG hx
  split at e
  · rename_i t v hs
    rw [hs] at hv
    have hv0 := hv
    obtain ⟨v', h1, h2⟩ := hv.iface_inv
    unfold Oper.wp
    have : (execOp a.eval o).run P w = .halt (.panic (.iface t v')) w := by simp [execOp, ho, h1, Instr.panic]
    rw [this]
    exact hkp _ _ _ _ _ e (Gr.refl h m) H (.iface t v v' h2) (Bel.refl B w)
  · cases e

theorem all_mem {nt G : Nat} {xs : Array Operand} (h : xs.toList.all (xOk nt G) = true) {x : Operand} (hx : x ∈ xs) : xOk nt G x = true := List.all_eq_true.1 h x (Array.mem_toList_iff.2 hx)

theorem evOp_sound (hE : E.Ok P G) (hG : ∀ i, i < G → B.old i) (hcall : CallOk P B call) (H : HRel B m h w) (T : TRel nt m tm a) {o : Oper} (hx : o.op.operands.toList.all (xOk nt G) = true)
    {next : Act → World → Prop} {Q : Exit → Act → World → Prop} (e : evOp E call o.op tm h k kp = some r)
    (hk : ∀ v h' m' w' v', k v h' = some r → Gr h m h' m' → HRel B m' h' w' → VRel m' v v' → Bel B w w' → next (a.put o.dst v') w')
    (hkp : ∀ v h' m' w' v', kp v h' = some r → Gr h m h' m' → HRel B m' h' w' → VRel m' v v' → Bel B w w' → Q (.panic [{ v := v', recovered := false }]) a w') : o.wp P a w next Q := by
  cases ho : o.op with
  | move x => rw [ho] at hx; exact wp_of_res (op_move hG H T (.inl ho) (all_mem hx (by simp [Op.operands])) e) hk
  | assign x => rw [ho] at hx; exact wp_of_res (op_move hG H T (.inr ho) (all_mem hx (by simp [Op.operands])) e) hk
  | pick c x y => rw [ho] at hx; exact wp_of_res (op_pick hG H T ho (all_mem hx (by simp [Op.operands])) (all_mem hx (by simp [Op.operands])) (all_mem hx (by simp [Op.operands])) e) hk
  | alloc t => exact wp_of_res (op_alloc hE H ho e) hk
  | box t x => rw [ho] at hx; exact wp_of_res (op_box hE hG H T ho (all_mem hx (by simp [Op.operands])) e) hk
  | build t ps =>
    rw [ho] at hx
    exact wp_of_res (op_build hE hG H T ho (fun p hp => all_mem hx (by simp only [Op.operands, List.mem_toArray, List.mem_map]; exact ⟨p, hp, rfl⟩)) e) hk
  | buildSlice t n ps =>
    rw [ho] at hx
    exact wp_of_res (op_buildSlice hE hG H T ho (fun p hp => all_mem hx (by simp only [Op.operands, List.mem_toArray, List.mem_map]; exact ⟨p, hp, rfl⟩)) e) hk
  | load t x => rw [ho] at hx; exact wp_of_res (op_load hE hG H T ho (all_mem hx (by simp [Op.operands])) e) hk
  | store t x y => rw [ho] at hx; exact wp_of_res (op_store hE hG H T ho (all_mem hx (by simp [Op.operands])) (all_mem hx (by simp [Op.operands])) e) hk
  | nilCheck x => rw [ho] at hx; exact wp_of_res (op_nilCheck hG H T ho (all_mem hx (by simp [Op.operands])) e) hk
  | binOp op t x y ty => rw [ho] at hx; exact wp_of_res (op_binOp hE hG H T ho (all_mem hx (by simp [Op.operands])) (all_mem hx (by simp [Op.operands])) e) hk
  | unOp op t x => rw [ho] at hx; exact wp_of_res (op_unOp hG H T ho (all_mem hx (by simp [Op.operands])) e) hk
  | convert s d x => rw [ho] at hx; exact wp_of_res (op_convert hE hG H T ho (all_mem hx (by simp [Op.operands])) e) hk
  | makeInterface t x => rw [ho] at hx; exact wp_of_res (op_makeInterface hE hG H T ho (all_mem hx (by simp [Op.operands])) e) hk
  | makeFunc fn xs ys => rw [ho] at hx; exact wp_of_res (op_makeFunc hG H T ho hx e) hk
  | makeMap t rs =>
    cases rs with
    | none => exact wp_of_res (op_makeMap H ho e) hk
    | some rs => rw [ho] at e; cases e
  | makeSlice t x y => rw [ho] at hx; exact wp_of_res (op_makeSlice hE hG H T ho (all_mem hx (by simp [Op.operands])) (all_mem hx (by simp [Op.operands])) e) hk
  | slice t x lo hi mx =>
    rw [ho] at hx
    exact wp_of_res (op_slice hE hG H T ho (all_mem hx (by simp [Op.operands])) (fun y hy => all_mem hx (by subst hy; simp [Op.operands])) (fun y hy => all_mem hx (by subst hy; simp [Op.operands])) (fun y hy => all_mem hx (by subst hy; simp [Op.operands])) e) hk
  | fieldAddr t x f => rw [ho] at hx; exact wp_of_res (op_fieldAddr hE hG H T ho (all_mem hx (by simp [Op.operands])) e) hk
  | field t x f => rw [ho] at hx; exact wp_of_res (op_field hE hG H T ho (all_mem hx (by simp [Op.operands])) e) hk
  | indexAddr t x y => rw [ho] at hx; exact wp_of_res (op_indexAddr hE hG H T ho (all_mem hx (by simp [Op.operands])) (all_mem hx (by simp [Op.operands])) e) hk
  | index t x y => rw [ho] at hx; exact wp_of_res (op_index hE hG H T ho (all_mem hx (by simp [Op.operands])) (all_mem hx (by simp [Op.operands])) e) hk
  | lookup t x y ok => rw [ho] at hx; exact wp_of_res (op_lookup hE hG H T ho (all_mem hx (by simp [Op.operands])) (all_mem hx (by simp [Op.operands])) e) hk
  | mapUpdate t x y z => rw [ho] at hx; exact wp_of_res (op_mapUpdate hE hG H T (.inl ho) (all_mem hx (by simp [Op.operands])) (all_mem hx (by simp [Op.operands])) (all_mem hx (by simp [Op.operands])) e) hk
  | insert t x y z => rw [ho] at hx; exact wp_of_res (op_mapUpdate hE hG H T (.inr ho) (all_mem hx (by simp [Op.operands])) (all_mem hx (by simp [Op.operands])) (all_mem hx (by simp [Op.operands])) e) hk
  | range t x => rw [ho] at hx; exact wp_of_res (op_range hE hG H T ho (all_mem hx (by simp [Op.operands])) e) hk
  | next x s =>
    cases s with
    | true => rw [ho] at hx; exact wp_of_res (op_next hG H T ho (all_mem hx (by simp [Op.operands])) e) hk
    | false => rw [ho] at e; cases e
  | typeAssert x xt t ok => rw [ho] at hx; exact wp_of_res (op_typeAssert hE hG H T ho (all_mem hx (by simp [Op.operands])) e) hk
  | extract x i => rw [ho] at hx; exact wp_of_res (op_extract hG H T ho (all_mem hx (by simp [Op.operands])) e) hk
  | panic x => rw [ho] at hx; exact op_panic hG H T ho (all_mem hx (by simp [Op.operands])) e hkp
  | call c =>
    rw [ho] at hx
    cases hc : c.callee with
    | builtin b =>
      exact wp_of_res (op_builtin hE hG H T ho hc (List.all_eq_true.2 fun x hxx => all_mem hx (by simp only [Op.operands, Call.operands, hc]; simpa using hxx)) e) hk
    | value f =>
      exact op_call hE hG hcall H T ho hc (all_mem hx (by simp [Op.operands, Call.operands, hc])) (List.all_eq_true.2 fun x hxx => all_mem hx (by simp only [Op.operands, Call.operands, hc]; simp; right; simpa using hxx)) e hk hkp
    | invoke rv mn => rw [ho] at e; simp only [evOp, opCall, hc] at e; cases e
  | ready g => rw [ho] at e; cases e
  | waits g => rw [ho] at e; cases e
  | sliceToArrayPointer d x => rw [ho] at e; cases e
  | makeChan t s => rw [ho] at e; cases e
  | mapEntry t x y => rw [ho] at e; cases e
  | entryStore t x y z => rw [ho] at e; cases e
  | entry x => rw [ho] at e; cases e
  | go c => rw [ho] at e; cases e
  | defer c => rw [ho] at e; cases e
  | send c x => rw [ho] at e; cases e
  | recv t c b => rw [ho] at e; cases e
  | select cs b => rw [ho] at e; cases e

/-- The fence that keeps nothing out: of activations of functions, or of the rounds of one loop. -/
def FR (ro : Option Nat) : Fence := { Fence.wide with round := ro }

theorem wpIn_of_wp {ro : Option Nat} {dep : Nat} {o : Oper} {next : Act → World → Prop} {Q : Exit → Act → World → Prop} (hd : ∀ c, o.op ≠ .defer c) (hw : o.wp P a w next Q) : o.wpIn (FR ro) dep P a w next Q := by
  refine ⟨fun _ _ => trivial, ?_⟩
  unfold Oper.wp at hw
  rw [show (FR ro).round = ro from rfl, Oper.semAt_eq ro _ o hd]
  generalize (execOp a.eval o).run P w = x at hw ⊢
  cases x with
  | ok v w' =>
    cases v with
    | value v => exact hw
    | skip => exact hw
    | defer d => exact hw
    | enter f args => exact ⟨fun hh => by simp [FR, Fence.wide] at hh, show CallsIn Fence.wide (dep - 1) P f args w' _ from callsIn_wide.2 hw⟩
    | row row args =>
      refine ⟨fun hh => by simp [FR, Fence.wide] at hh, fun c cs _ => ?_⟩
      obtain ⟨v, w'', q, s⟩ := (show Rows P row args w' _ from hw) c cs
      exact ⟨v, w'', q, stepsIn_wide.2 s⟩
    | _ => exact hw.elim
  | halt x w' => cases x <;> first | exact hw | exact hw.elim

theorem evOp_soundIn {ro : Option Nat} {dep : Nat} (hE : E.Ok P G) (hG : ∀ i, i < G → B.old i) (hcall : CallOk P B call) (H : HRel B m h w) (T : TRel nt m tm a) {o : Oper} (hx : o.op.operands.toList.all (xOk nt G) = true)
    {next : Act → World → Prop} {Q : Exit → Act → World → Prop} (e : evOp E call o.op tm h k kp = some r)
    (hk : ∀ v h' m' w' v', k v h' = some r → Gr h m h' m' → HRel B m' h' w' → VRel m' v v' → Bel B w w' → next (a.put o.dst v') w')
    (hkp : ∀ v h' m' w' v', kp v h' = some r → Gr h m h' m' → HRel B m' h' w' → VRel m' v v' → Bel B w w' → Q (.panic [{ v := v', recovered := false }]) a w') : o.wpIn (FR ro) dep P a w next Q :=
  wpIn_of_wp (fun c ho => by rw [ho] at e; cases e) (evOp_sound hE hG hcall H T hx e hk hkp)

theorem op_bytes (hE : E.Ok P G) (hG : ∀ i, i < G → B.old i) (H : HRel B m h w) (T : TRel nt m tm a) {s d e : TypeId} {i j q : TI} {x : Operand} {u : ByteArray} {o : Oper} (ho : o.op = .convert s d x) (hx : xOk nt G x = true)
    (ei : E.ti.get s = some i) (ej : E.ti.get d = some j) (eq : E.ti.get e = some q) (hi : i.d = .string) (hj : j.d = .slice e) (hq : q.d = .int .u8) (hu : opnd tm x = .string u)
    (er : k (.slice (some ⟨h.next, 0, none⟩) u.size u.size) (h.new (.cells (u.data.toList.map fun b => .int .u8 b.toNat) e (some 1) false)) = some r) : OpRes P B m h w (execOp a.eval o) k r := by
  have hv := T.opnd H hG hx
  rw [hu] at hv
  have hv := hv.string_inv
  simp only [execOp, ho]
  have hrun := run_bytes_of_string (P := P) w s d e u (by rw [(hE.ti _ _ ei).d, hi]) (by rw [(hE.ti _ _ ej).d, hj]) (by rw [(hE.ti _ _ eq).d, hq])
  have hcap := grownCap_ge w u.size 0 e
  generalize grownCap w u.size 0 e = c at hrun hcap
  have hlen : u.data.toList.length = u.size := rfl
  have hsz : (bytesRow u c).size = c := by
    unfold bytesRow
    have : u.data.size = u.size := rfl
    simp
    omega
  have hget : ∀ (n : Nat) v, (u.data.toList.map fun b => Value.int .u8 b.toNat)[n]? = some v → (bytesRow u c)[n]? = some v := fun n v hn => by
    have hlt : n < u.data.size := by
      have := (List.getElem?_eq_some_iff.1 hn).1
      simpa using this
    unfold bytesRow
    rw [Array.getElem?_append_left (by simpa using hlt)]
    simpa using hn
  obtain ⟨h1, h2⟩ := H.drew.alloc (.cells (u.data.toList.map fun b => Value.int .u8 b.toNat) e (some 1) false) (.cells (bytesRow u c) e ((bytesRow u c).size, (bytesRow u c).size + 1)) ⟨w.heap.size, 0, u.size, c, some 1⟩ (by simp)
    ⟨by simpa using hlen.symm, rfl, bytesRow u c, _, heap_alloc_self _ _, hsz, fun n v hn => ⟨v, by rw [Nat.zero_add]; exact hget n v hn, by
      simp only [List.getElem?_map, Option.map_eq_some_iff] at hn
      obtain ⟨b, _, rfl⟩ := hn
      exact .int _ _⟩, fun _ => ⟨H.free, fun n hn => by simp only; omega⟩⟩
  refine OpRes.mk er h2 h1 (v' := .slice (some ⟨w.heap.size, 0, none⟩) u.size c) ?_ ?_ (by rw [hv]; exact hrun)
  · have := VRel.slice (m := m.put h.next ⟨w.heap.size, 0, u.size, c, some 1⟩) (i := h.next) (x := 0) (y := 0) (l := u.size) (c := u.size) (c' := c) (MP.put_same _ _ _) (Nat.le_refl _) (.inr ⟨hcap, 1, rfl, by simp, by simp⟩) (.inl rfl)
    exact this
  · exact (Bel.refl B w).drew.alloc (fun k hk => by have := H.size k hk; simpa using this) _

theorem evOpX_soundIn {ro : Option Nat} {dep : Nat} (hE : E.Ok P G) (hG : ∀ i, i < G → B.old i) (hcall : CallOk P B call) (H : HRel B m h w) (T : TRel nt m tm a) {o : Oper} (hx : o.op.operands.toList.all (xOk nt G) = true)
    {next : Act → World → Prop} {Q : Exit → Act → World → Prop} (e : evOpX E call o.op tm h k kp = some r)
    (hk : ∀ v h' m' w' v', k v h' = some r → Gr h m h' m' → HRel B m' h' w' → VRel m' v v' → Bel B w w' → next (a.put o.dst v') w')
    (hkp : ∀ v h' m' w' v', kp v h' = some r → Gr h m h' m' → HRel B m' h' w' → VRel m' v v' → Bel B w w' → Q (.panic [{ v := v', recovered := false }]) a w') : o.wpIn (FR ro) dep P a w next Q := by
  have other : evOp E call o.op tm h k kp = some r → o.wpIn (FR ro) dep P a w next Q := fun e => evOp_soundIn hE hG hcall H T hx e hk hkp
  unfold evOpX at e
  split at e
  · rename_i s d x ho
    obtain ⟨i, ei, e1⟩ := ob_eq e
    obtain ⟨j, ej, e2⟩ := ob_eq e1
    split at e2
    · rename_i el u hi hj hu
      obtain ⟨q, eq, e3⟩ := ob_eq e2
      split at e3
      · rename_i hq
        refine wpIn_of_wp (fun c hc => by rw [ho] at hc; cases hc) (wp_of_res (op_bytes hE hG H T ho (all_mem hx (by rw [ho]; simp [Op.operands])) ei ej eq hi hj hq hu e3) hk)
      · cases e3
    · exact other (by rw [ho]; exact e2)
  · exact other e

end
end Go.Amb
