/- Part of the proof by the abstract machine: no claim of its own. -/
import Derived.Test.YtnfncnchbogncaaA15
set_option linter.unusedSimpArgs false
set_option linter.unusedVariables false
set_option linter.unnecessarySimpa false
set_option linter.unusedSectionVars false
/- The abstract machine, part 16: regions in their written order; code; functions. -/
set_option linter.unusedVariables false
namespace Go.Amb
open Go.RowKit

inductive XRel (m : MP) : XExit → Exit → Prop
  | normal : XRel m .normal .normal
  | exit (id : Nat) : XRel m (.exit id) (.exit id)
  | ret : XRel m .ret .ret
  | panic {v v' : Value} (h : VRel m v v') : XRel m (.panic v) (.panic [{ v := v', recovered := false }])

/-- What a continuation of the abstract machine comes to, of the real one. -/
def KOk (B nt : Nat) (m : MP) (h : AHeap) (w : World) (ds : List Deferred) (k : KX) (r : Ans) (Q : Exit → Act → World → Prop) : Prop :=
  ∀ e tm' h' m' w' a' e', k e tm' h' = some r → Gr h m h' m' → HRel B m' h' w' → TRel nt m' tm' a' → a'.defers = ds → Below B w w' → XRel m' e e' → Q e' a' w'

theorem KOk.from_ {B nt : Nat} {m m' : MP} {h h' : AHeap} {w w' : World} {ds : List Deferred} {k : KX} {r : Ans} {Q : Exit → Act → World → Prop} (hh : KOk B nt m h w ds k r Q) (hm : Gr h m h' m') (hb : Below B w w') : KOk B nt m' h' w' ds k r Q :=
  fun e tm h2 m2 w2 a e' hk hm2 H T hd hb2 hx => hh e tm h2 m2 w2 a e' hk (hm.trans hm2) H T hd (hb.trans hb2) hx

section
variable {P : Program} {E : Env} {G B nt : Nat}
variable {m : MP} {h : AHeap} {w : World} {tm : PT Value} {a : Act} {call : Call} {k : KX} {r : Ans} {Q : Exit → Act → World → Prop}

theorem put_defers (a : Act) (d : Option Tmp) (v : Value) : (a.put d v).defers = a.defers := by cases d <;> rfl

theorem TRel.same {t : Nat} {v : Value} (T : TRel nt m tm a) (ht : Amb.opnd tm (.tmp t) = v) : TRel nt m (tm.set t (some v)) a := by
  refine ⟨T.sz, fun q hq => ?_⟩
  have := T.slot q hq
  have e : Amb.opnd (tm.set t (some v)) (.tmp q) = Amb.opnd tm (.tmp q) := by
    by_cases e : q = t
    · subst e; rw [ht]; simp [Amb.opnd, PT.get_set]
    · simp only [Amb.opnd, PT.get_set]; rw [if_neg e]
  rw [e]
  exact this

/-- A guard, side by side. -/
theorem guard_sound {ops : Array Oper} {o : Oper} {yes no : PT Value → Option Ans} (T : TRel nt m tm a) (hg : (match o.guard with | none => true | some (j, _) => match gslot ops j with | some d => Nat.blt d nt | none => true) = true)
    (e : evGuard ops o tm yes no = some r) :
    (Region.wanted o (yielded ops a.tmps) = true ∧ ∃ tm', TRel nt m tm' a ∧ yes tm' = some r) ∨ (Region.wanted o (yielded ops a.tmps) = false ∧ ∃ tm', TRel nt m tm' a ∧ no tm' = some r) := by
  unfold evGuard at e
  split at e
  · rename_i hn
    exact .inl ⟨by simp [Region.wanted, hn], tm, T, e⟩
  · rename_i j want hs
    rw [hs] at hg
    obtain ⟨d, ed, e1⟩ := ob_eq e
    clear e
    simp only [ed] at hg
    have hd : d < nt := Nat.blt_eq.mp hg
    have hv : VRel m (opnd tm (.tmp d)) (a.tmps.getD d Go.undef) := T.slot d hd
    have hsz := T.sz
    have hlt : d < a.tmps.size := Nat.lt_of_lt_of_le hd hsz
    have hget : a.tmps[d]? = some (a.tmps.getD d Go.undef) := by
      rw [Array.getElem?_eq_getElem hlt]
      simp [Array.getD, hlt]
    have hyield : yielded ops a.tmps j = match a.tmps.getD d Go.undef with | .bool b => some b | _ => none := by
      unfold gslot at ed
      unfold yielded
      split at ed
      · rename_i o' ho'
        simp only [ho', Option.bind_some, ed, hget]
        cases a.tmps.getD d Go.undef <;> rfl
      · cases ed
    split at e1
    · rename_i b ho
      rw [ho] at hv
      have hv := hv.bool_inv
      rw [hv] at hyield
      have T' := T.same ho
      have hw : Region.wanted o (yielded ops a.tmps) = (b == want) := by simp [Region.wanted, hs, hyield]
      rw [hw]
      cases b <;> cases want
      · exact .inl ⟨rfl, _, T', e1⟩
      · exact .inr ⟨rfl, _, T', e1⟩
      · exact .inr ⟨rfl, _, T', e1⟩
      · exact .inl ⟨rfl, _, T', e1⟩
    · rename_i c ho
      rw [ho] at hv
      obtain ⟨c', hv, _⟩ := hv.tuple_inv
      rw [hv] at hyield
      have hw : Region.wanted o (yielded ops a.tmps) = false := by simp [Region.wanted, hs, hyield]
      exact .inr ⟨hw, tm, T, e1⟩
    · cases e1

theorem evOps_sound (hE : E.Ok P G) (hG : G ≤ B) (hcall : CallOk P B call) {ops : Array Oper} (hops : ops.toList.all (operOk nt G ops) = true) : ∀ (l : List Oper) (i : Nat) {m : MP} {h : AHeap} {w : World} {tm : PT Value} {a : Act},
    ops.toList.drop i = l → evOps E call ops l tm h k = some r → HRel B m h w → TRel nt m tm a → KOk B nt m h w a.defers k r Q → wpOps P ops Q (List.range' i l.length) a w := by
  intro l
  induction l with
  | nil =>
    intro i m h w tm a _ e H T hk
    exact hk _ _ _ _ _ _ _ e (Gr.refl h m) H T rfl (Below.refl B w) .normal
  | cons o l ih =>
    intro i m h w tm a hl e H T hk
    have hi : ops[i]? = some o := by
      have : (ops.toList.drop i)[0]? = some o := by rw [hl]; rfl
      rw [List.getElem?_drop] at this
      simpa using this
    have hl' : ops.toList.drop (i + 1) = l := by
      rw [← List.drop_drop, hl]
      rfl
    have hok : operOk nt G ops o = true := List.all_eq_true.1 hops o (by
      have := List.mem_of_getElem? (show ops.toList[i]? = some o by simpa using hi)
      exact this)
    unfold operOk at hok
    rw [Bool.and_eq_true] at hok
    simp only [List.length_cons, List.range'_succ]
    rw [wpOps_cons]
    unfold wpOp
    rw [hi]
    simp only
    rcases guard_sound T hok.2 e with ⟨hw, tm', T', e'⟩ | ⟨hw, tm', T', e'⟩
    · rw [hw]
      simp only [if_true]
      left
      refine evOp_sound hE hG hcall H T' hok.1 e' ?_ ?_
      · intro v h' m' w' v' hk' hm H' hv hb
        exact ih (i + 1) hl' hk' H' ((T'.mono hm.le).put o.dst hv) (by rw [put_defers]; exact hk.from_ hm hb)
      · intro v h' m' w' v' hk' hm H' hv hb
        exact hk _ _ _ _ _ _ _ hk' hm H' (T'.mono hm.le) rfl hb (.panic hv)
    · rw [hw]
      simp only [Bool.false_eq_true, if_false]
      exact ih (i + 1) hl' e' H (T'.put o.dst VRel.undef) (by rw [put_defers]; exact hk)

/-- What is asked of the way that regions go whose order is open. -/
def DrawOk (P : Program) (B G : Nat) (D : Dr) (draw : Nat → Array Oper → PT Value → AHeap → KX → Option Ans) : Prop :=
  ∀ {ops : Array Oper} {tm : PT Value} {h : AHeap} {k : KX} {r : Ans} {nt : Nat} {m : MP} {w : World} {a : Act} {Q : Exit → Act → World → Prop} (id : Nat),
    draw id ops tm h k = some r → codeOk nt G D (.region id ops true) = true → HRel B m h w → TRel nt m tm a → KOk B nt m h w a.defers k r Q → (Code.region id ops true).wp P Q a w

theorem loop_sound {body : PT Value → AHeap → KX → Option Ans} {c : Code}
    (hbody : ∀ {k : KX} {r : Ans} {m : MP} {h : AHeap} {w : World} {tm : PT Value} {a : Act} {Q : Exit → Act → World → Prop}, body tm h k = some r → HRel B m h w → TRel nt m tm a → KOk B nt m h w a.defers k r Q → c.wp P Q a w) :
    ∀ (n : Nat) {m : MP} {h : AHeap} {w : World} {tm : PT Value} {a : Act}, loopE body n tm h k = some r → HRel B m h w → TRel nt m tm a → KOk B nt m h w a.defers k r Q →
      ∀ (b : Frame) (kk : List Item) (cs : List Frame), ∃ e a' w', Q e a' w' ∧ Arrives P (lone (b.at a (.code c :: .inLoop c :: kk)) cs w) b kk cs e a' w' := by
  intro n
  induction n with
  | zero => intro m h w tm a e; cases e
  | succ n ih =>
    intro m h w tm a e H T hk b kk cs
    -- one round
    have hround : c.wp P (fun e' a' w' => (e' = .normal ∧ ∀ (b : Frame) (kk : List Item) (cs : List Frame), ∃ e a'' w'', Q e a'' w'' ∧ Arrives P (lone (b.at a' (.code c :: .inLoop c :: kk)) cs w') b kk cs e a'' w'') ∨ (e' ≠ .normal ∧ Q e' a' w')) a w := by
      refine hbody (k := fun e tm h => match e with | .normal => loopE body n tm h k | e => k e tm h) (r := r) e H T ?_
      intro e1 tm' h' m' w' a' e' hk' hm H' T' hd hb hx
      cases hx with
      | normal => exact .inl ⟨rfl, fun b kk cs => ih hk' H' T' (by rw [hd]; exact hk.from_ hm hb) b kk cs⟩
      | exit id => exact .inr ⟨by simp, hk _ _ _ _ _ _ _ hk' hm H' T' hd hb (.exit id)⟩
      | ret => exact .inr ⟨by simp, hk _ _ _ _ _ _ _ hk' hm H' T' hd hb .ret⟩
      | panic hv => exact .inr ⟨by simp, hk _ _ _ _ _ _ _ hk' hm H' T' hd hb (.panic hv)⟩
    obtain ⟨e1, a1, w1, hq, harr⟩ := hround b (.inLoop c :: kk) cs
    rcases hq with ⟨rfl, hq⟩ | ⟨hne, hq⟩
    · obtain ⟨e2, a2, w2, hq2, harr2⟩ := hq b kk cs
      exact ⟨e2, a2, w2, hq2, .of_steps (Steps.trans harr (.one step_inLoop)) harr2⟩
    · exact ⟨e1, a1, w1, hq, .pass (x := .inLoop c) rfl (fun _ _ => .inl hne) harr⟩

theorem evCode_sound (hE : E.Ok P G) (hG : G ≤ B) (hcall : CallOk P B call) {D : Dr} {draw : Nat → Array Oper → PT Value → AHeap → KX → Option Ans} (hdraw : DrawOk P B G D draw) (lf : Nat) : ∀ (c : Code) {k : KX} {r : Ans} {m : MP} {h : AHeap} {w : World} {tm : PT Value} {a : Act} {Q : Exit → Act → World → Prop},
    evCode E call draw lf c tm h k = some r → codeOk nt G D c = true → HRel B m h w → TRel nt m tm a → KOk B nt m h w a.defers k r Q → c.wp P Q a w := by
  intro c
  induction c with
  | skip =>
    intro k r m h w tm a Q e hc H T hk
    exact wp_skip (hk _ _ _ _ _ _ _ e (Gr.refl h m) H T rfl (Below.refl B w) .normal)
  | region id ops dr =>
    intro k r m h w tm a Q e hc H T hk
    cases dr with
    | true => exact hdraw id e hc H T hk
    | false =>
      refine wp_region ?_
      simp only [codeOk, Bool.and_eq_true] at hc
      have := evOps_sound (Q := Q) hE hG hcall hc.1 ops.toList 0 (by simp) e H T hk
      rw [Array.length_toList, ← List.range_eq_range'] at this
      exact this
  | seq x y ihx ihy =>
    intro k r m h w tm a Q e hc H T hk
    simp only [codeOk, Bool.and_eq_true] at hc
    refine wp_seq (ihx (k := fun e tm h => match e with | .normal => evCode E call draw lf y tm h k | e => k e tm h) e hc.1 H T ?_)
    intro e1 tm' h' m' w' a' e' hk' hm H' T' hd hb hx
    cases hx with
    | normal => exact ihy hk' hc.2 H' T' (by rw [hd]; exact hk.from_ hm hb)
    | exit id => exact hk _ _ _ _ _ _ _ hk' hm H' T' hd hb (.exit id)
    | ret => exact hk _ _ _ _ _ _ _ hk' hm H' T' hd hb .ret
    | panic hv => exact hk _ _ _ _ _ _ _ hk' hm H' T' hd hb (.panic hv)
  | cond c x y ihx ihy =>
    intro k r m h w tm a Q e hc H T hk
    simp only [codeOk, Bool.and_eq_true] at hc
    obtain ⟨b, eb, e1⟩ := ob_eq e
    have hv := T.opnd H hG hc.1.1
    rw [bool?_eq eb] at hv
    refine wp_cond hv.bool_inv ?_
    cases b with
    | true => exact ihx e1 hc.1.2 H T hk
    | false => exact ihy e1 hc.2 H T hk
  | block id c ih =>
    intro k r m h w tm a Q e hc H T hk
    refine wp_block (ih (k := fun e tm h => match e with | .exit j => (match Nat.beq j id with | true => k .normal tm h | false => k (.exit j) tm h) | e => k e tm h) e hc H T ?_)
    intro e1 tm' h' m' w' a' e' hk' hm H' T' hd hb hx
    cases hx with
    | normal => exact hk _ _ _ _ _ _ _ hk' hm H' T' hd hb .normal
    | exit j =>
      simp only [Exit.inBlock]
      simp only at hk'
      split at hk'
      · rename_i hj
        rw [if_pos (Nat.eq_of_beq_eq_true hj)]
        exact hk _ _ _ _ _ _ _ hk' hm H' T' hd hb .normal
      · rename_i hj
        rw [if_neg (Nat.ne_of_beq_eq_false hj)]
        exact hk _ _ _ _ _ _ _ hk' hm H' T' hd hb (.exit j)
    | ret => exact hk _ _ _ _ _ _ _ hk' hm H' T' hd hb .ret
    | panic hv => exact hk _ _ _ _ _ _ _ hk' hm H' T' hd hb (.panic hv)
  | loop c ih =>
    intro k r m h w tm a Q e hc H T hk b kk cs
    have := loop_sound (P := P) (B := B) (nt := nt) (k := k) (r := r) (Q := Q) (body := fun tm h k => evCode E call draw lf c tm h k) (c := c) (fun e H T hk => ih e hc H T hk) lf e H T hk b kk cs
    obtain ⟨e1, a1, w1, hq, harr⟩ := this
    exact ⟨e1, a1, w1, hq, .of_steps (.one step_loop) harr⟩
  | exit id =>
    intro k r m h w tm a Q e hc H T hk
    exact wp_exit (hk _ _ _ _ _ _ _ e (Gr.refl h m) H T rfl (Below.refl B w) (.exit id))
  | ret =>
    intro k r m h w tm a Q e hc H T hk
    exact wp_ret (hk _ _ _ _ _ _ _ e (Gr.refl h m) H T rfl (Below.refl B w) .ret)
  | rangeFunc f ps x y _ _ => intro k r m h w tm a Q e; cases e
  | scope c _ => intro k r m h w tm a Q e; cases e
  | label l => intro k r m h w tm a Q e; cases e
  | goto l => intro k r m h w tm a Q e; cases e
  | refuse s => intro k r m h w tm a Q e; cases e

end
end Go.Amb
