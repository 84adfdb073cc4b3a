/- Part of the proof by the abstract machine: no claim of its own. -/
import Derived.Test.YtnfncnchbogncaaDoorA16
set_option linter.unusedSimpArgs false
set_option linter.unusedVariables false
set_option linter.unnecessarySimpa false
set_option linter.unusedSectionVars false
/- The abstract machine, part 17: of one operation: what it names is all that it knows; what only reads leaves all as it is. -/
set_option linter.unusedVariables false
namespace Go.Amb
open Go.RowKit

theorem ans_eq {x : Option Ans} {f : Value → AHeap → Option Ans} {r : Ans} (h : ans x f (fun _ _ => none) = some r) : ∃ v q, x = some (.ret v q) ∧ f v q = some r := by
  cases x with
  | none => cases h
  | some x => cases x with
    | ret v q => exact ⟨v, q, rfl, h⟩
    | panic v q => cases h

theorem eqAddr_eq {a b : Option Addr} (h : eqAddr a b = true) : a = b := by
  unfold eqAddr at h
  split at h
  · rfl
  · rename_i a b
    simp only [Bool.and_eq_true, beq_iff_eq] at h
    have e1 := Nat.eq_of_beq_eq_true h.1.1
    have e2 := Nat.eq_of_beq_eq_true h.1.2
    obtain ⟨⟨h1, h2⟩, h3⟩ := h
    cases a; cases b
    simp_all
  · cases h
theorem eqV1_eq {a b : Value} (h : eqV1 a b = true) : a = b := by
  unfold eqV1 at h
  split at h
  · simpa using h
  · rename_i k x k' y
    simp only [Bool.and_eq_true, beq_iff_eq] at h
    rw [ikEq_eq h.1, h.2]
  · rw [(strEq_iff _ _).1 h]
  · rw [eqAddr_eq h]
  · simp only [Bool.and_eq_true] at h
    rw [eqAddr_eq h.1.1, Nat.eq_of_beq_eq_true h.1.2, Nat.eq_of_beq_eq_true h.2]
  · simp at h; rw [h]
  · rfl
  · rfl
  · cases h
theorem eqL1_eq : ∀ {a b : List Value}, eqL1 a b = true → a = b := by
  intro a
  induction a with
  | nil => intro b h; cases b with
    | nil => rfl
    | cons => cases h
  | cons x a ih => intro b h; cases b with
    | nil => cases h
    | cons y b =>
      simp only [eqL1, Bool.and_eq_true] at h
      rw [eqV1_eq h.1, ih h.2]
theorem arr_eq {a b : Array Value} (h : eqL1 a.toList b.toList = true) : a = b := by
  have := eqL1_eq h
  exact Array.toList_inj.1 this
theorem eqV_eq {a b : Value} (h : eqV a b = true) : a = b := by
  unfold eqV at h
  split at h
  · rw [arr_eq h]
  · rw [arr_eq h]
  · simp only [Bool.and_eq_true] at h
    rw [Nat.eq_of_beq_eq_true h.1.1, arr_eq h.1.2, arr_eq h.2]
  · exact eqV1_eq h

section
variable {E : Env} {call : Call} {tm tm' : PT Value} {h h' : AHeap} {k kp : KV}

/-- What an operation names is all that it knows. -/
theorem evOp_congr {op : Op} (hx : ∀ x ∈ op.operands, opnd tm x = opnd tm' x) : evOp E call op tm h k kp = evOp E call op tm' h k kp := by
  have pairs : ∀ ps : Array (Nat × Operand), (∀ x ∈ ps.map (·.2), opnd tm x = opnd tm' x) →
      (ps.toList.map fun p => (p.1, opnd tm p.2)) = (ps.toList.map fun p => (p.1, opnd tm' p.2)) := fun ps hp =>
    List.map_congr_left fun p hm => by
      rw [hp p.2 (Array.mem_map.2 ⟨p, Array.mem_toList_iff.1 hm, rfl⟩)]
  cases op <;> simp only [Op.operands] at hx <;> simp only [evOp]
  case build t ps => simp only [opBuild]; rw [pairs ps fun x hm => hx x (by simpa using hm)]
  case buildSlice t n ps => simp only [opBuildSlice]; rw [pairs ps fun x hm => hx x (by simpa using hm)]
  case makeFunc fn first captured =>
    simp only [opMakeFunc]
    rw [Array.map_congr_left (xs := first) fun x hm => hx x (by simp [hm]), Array.map_congr_left (xs := captured) fun x hm => hx x (by simp [hm])]
  case call c =>
    have hargs : c.args.toList.map (opnd tm) = c.args.toList.map (opnd tm') := List.map_congr_left fun x hm => hx x (by simp [Go.Call.operands, Array.mem_toList_iff.1 hm])
    simp only [opCall, opCallV, hargs]
    cases hc : c.callee with
    | value f => have hf := hx f (by simp [Go.Call.operands, hc]); simp only [hf]
    | invoke r m => rfl
    | builtin b => rfl
  case makeMap t q => cases q <;> rfl
  case next x b =>
    have h0 := hx x (by simp)
    cases b with
    | false => rfl
    | true => simp only [opNext, h0]
  case slice t x lo hi mx =>
    simp only [opSlice]
    have h0 := hx x (by simp)
    have h1 : lo.map (opnd tm) = lo.map (opnd tm') := by cases lo with | none => rfl | some q => simp only [Option.map_some]; rw [hx q (by simp)]
    have h2 : hi.map (opnd tm) = hi.map (opnd tm') := by cases hi with | none => rfl | some q => simp only [Option.map_some]; rw [hx q (by simp)]
    have h3 : mx.map (opnd tm) = mx.map (opnd tm') := by cases mx with | none => rfl | some q => simp only [Option.map_some]; rw [hx q (by simp)]
    rw [h0, h1, h2, h3]
  all_goals (first | rfl | (simp_all [opPick, opAlloc, opBox, opLoad, opStore, opNilCheck, opConvert, opMakeInterface, opMakeSlice, opFieldAddr, opField, opIndexAddr, opIndex, opLookup, opMapUpdate, opRange, opNext, opTypeAssert, opExtract, opPanic, opBin, opUn]; done))

/-- Whatever it hands back, it leaves all as it is. -/
def Keeps (h : AHeap) (x : Option Ans) : Prop := ∀ v h', x = some (.ret v h') → h' = h
theorem Keeps.none : Keeps h Option.none := fun _ _ e => by cases e
theorem Keeps.ret (v : Value) : Keeps h (rety v h) := fun _ _ e => by cases e; rfl
theorem Keeps.ob {α : Type} {x : Option α} {f : α → Option Ans} (hf : ∀ a, Keeps h (f a)) : Keeps h (Amb.ob x f) := fun v h' e => by
  obtain ⟨a, _, e⟩ := ob_eq e
  exact hf a v h' e
theorem Keeps.cond {b : Bool} {x y : Option Ans} (hx : Keeps h x) (hy : Keeps h y) : Keeps h (Bool.rec y x b) := by cases b <;> assumption
theorem Keeps.cond' {b : Bool} {x y : Option Ans} (hx : Keeps h x) (hy : Keeps h y) : Keeps h (_root_.cond b x y) := by cases b <;> assumption
theorem Keeps.ld {i : TI} {b o : Nat} {f : Value → Option Ans} (hf : ∀ a, Keeps h (f a)) : Keeps h (h.ld i b o f) := fun v h' e => by
  rcases ld_eq e with ⟨_, vs, _, _, e⟩ | ⟨_, _, v1, _, e⟩
  · exact hf _ v h' e
  · exact hf _ v h' e
theorem Keeps.lks : ∀ (ks : List LK) (l : List Value) {f : List Value → Option Ans}, (∀ a, Keeps h (f a)) → Keeps h (asLKs ks l f) := by
  intro ks
  induction ks with
  | nil => intro l f hf; cases l <;> first | exact hf _ | exact Keeps.none
  | cons k ks ih =>
    intro l f hf v h' e
    unfold asLKs at e
    obtain ⟨a, _, e⟩ := ob_eq e
    have : ∀ (g : Value → Option Ans), (∀ a, Keeps h (g a)) → Keeps h (asLK k a g) := fun g hg => by
      unfold asLK
      split
      all_goals first | exact Keeps.ob fun _ => hg _ | exact hg _
    exact this _ (fun a => ih _ fun b => hf _) v h' e
theorem Keeps.asTI {i : TI} {v : Value} {f : Value → Option Ans} (hf : ∀ a, Keeps h (f a)) : Keeps h (asTI i v f) := by
  unfold Amb.asTI
  split
  · exact Keeps.ob fun l => Keeps.lks _ _ fun _ => hf _
  · split
    · unfold asLK
      repeat' (first | (with_reducible exact Keeps.ob fun _ => hf _) | (with_reducible exact hf _) | (with_reducible exact Keeps.none) | split)
    · exact Keeps.none


/-- What only reads leaves all as it is. -/
theorem evOp_keeps {o : Oper} (hc : isEv o = false) : Keeps h (evOp E call o.op tm h rety nopan) := by
  unfold isEv at hc
  cases ho : o.op <;> rw [ho] at hc <;> simp only [evOp]
  case call c =>
    obtain ⟨ce, as, ts⟩ := c
    cases ce with
    | value f => simp [cls] at hc
    | invoke r m => exact Keeps.none
    | builtin b =>
      simp only [opCall]
      unfold evBuiltin
      split
      · (repeat' (first | (with_reducible exact Keeps.none) | (with_reducible exact Keeps.ret _) | (with_reducible refine Keeps.ob fun _ => ?_) | (with_reducible refine Keeps.ld fun _ => ?_) | (with_reducible refine Keeps.asTI fun _ => ?_) | (with_reducible refine Keeps.cond' ?_ ?_) | split))
      · simp [cls] at hc
      · (repeat' (first | (with_reducible exact Keeps.none) | (with_reducible exact Keeps.ret _) | (with_reducible refine Keeps.ob fun _ => ?_) | (with_reducible refine Keeps.ld fun _ => ?_) | (with_reducible refine Keeps.asTI fun _ => ?_) | (with_reducible refine Keeps.cond' ?_ ?_) | split))
      · (repeat' (first | (with_reducible exact Keeps.none) | (with_reducible exact Keeps.ret _) | (with_reducible refine Keeps.ob fun _ => ?_) | (with_reducible refine Keeps.ld fun _ => ?_) | (with_reducible refine Keeps.asTI fun _ => ?_) | (with_reducible refine Keeps.cond' ?_ ?_) | split))
      · simp [cls] at hc
      · exact Keeps.none
  all_goals (first | (simp [cls] at hc; done) | skip)
  all_goals (try simp only [opPick, opBuild, opLoad, opLookup, opNilCheck, opConvert, opMakeInterface, opMakeFunc, opSlice, opFieldAddr, opField, opIndexAddr, opIndex, opTypeAssert, opExtract, opBin, opUn])
  all_goals (repeat' (first | (with_reducible exact Keeps.none) | (with_reducible exact Keeps.ret _) | (with_reducible refine Keeps.ob fun _ => ?_) | (with_reducible refine Keeps.ld fun _ => ?_) | (with_reducible refine Keeps.asTI fun _ => ?_) | (with_reducible refine Keeps.cond' ?_ ?_) | split))
theorem evOp_keep {o : Oper} {v : Value} (hc : isEv o = false) (e : evOp E call o.op tm h rety nopan = some (.ret v h')) : h' = h := evOp_keeps hc v h' e

end
end Go.Amb
