/- Part of the proof by the abstract machine: no claim of its own. -/
import Derived.Test.YtnfncnchbogncaaDoorA15
import Derived.LoopNIn
set_option linter.unusedSimpArgs false
set_option linter.unusedVariables false
set_option linter.unnecessarySimpa false
set_option linter.unusedSectionVars false
/- The abstract machine, part 16: regions in their written order; code; functions. -/
set_option linter.unusedVariables false
namespace Go.Amb
open Go.RowKit

inductive XRel (m : MP) : XExit → Exit → Prop
  | normal : XRel m .normal .normal
  | exit (id : Nat) : XRel m (.exit id) (.exit id)
  | ret : XRel m .ret .ret
  | panic {v v' : Value} (h : VRel m v v') : XRel m (.panic v) (.panic [{ v := v', recovered := false }])

/-! ### What stands from one place of a walk to another -/
def mkD (D : Nat) : Deferred := { target := .collected D, args := #[] }
/-- More is kept; what was kept is as it was; marks of loops may have come to the deferred calls. -/
structure Ends (B S : Kept) (w w' : World) (ds ds' : List Deferred) : Prop where
  old : S.old = B.old
  own : ∀ i, B.own i → S.own i
  bel : Bel B w w'
  marks : ∃ L : List Nat, ds' = L.map mkD ++ ds ∧ L.Nodup ∧ ∀ D ∈ L, ¬ B D ∧ S.own D ∧ w'.heap[D]? = some (.deferred (some []))
theorem Ends.sub {B S : Kept} {w w' : World} {ds ds' : List Deferred} (h : Ends B S w w' ds ds') {i : Nat} (hi : B i) : S i := by
  rcases hi with hi | hi
  · exact .inl (by rw [h.old]; exact hi)
  · exact .inr (h.own i hi)
theorem Ends.of_bel {B : Kept} {w w' : World} (ds : List Deferred) (h : Bel B w w') : Ends B B w w' ds ds := ⟨rfl, fun _ h => h, h, [], rfl, List.nodup_nil, fun _ h => by cases h⟩
theorem Ends.trans {B S S' : Kept} {w w' w'' : World} {ds ds' ds'' : List Deferred} (h : Ends B S w w' ds ds') (k : Ends S S' w' w'' ds' ds'') : Ends B S' w w'' ds ds'' := by
  refine ⟨k.old.trans h.old, fun i hi => k.own i (h.own i hi), h.bel.trans (k.bel.mono fun i hi => h.sub hi), ?_⟩
  obtain ⟨L, e1, n1, g1⟩ := h.marks
  obtain ⟨L', e2, n2, g2⟩ := k.marks
  refine ⟨L' ++ L, by rw [e2, e1]; simp, List.nodup_append.2 ⟨n2, n1, fun x hx y hy e => (g2 x hx).1 (.inr (by rw [e]; exact (g1 y hy).2.1))⟩, fun D hD => ?_⟩
  rcases List.mem_append.1 hD with hD | hD
  · exact ⟨fun hb => (g2 D hD).1 (h.sub hb), (g2 D hD).2⟩
  · exact ⟨(g1 D hD).1, k.own _ (g1 D hD).2.1, (k.bel.block _ (.inr (g1 D hD).2.1)).trans (g1 D hD).2.2⟩

/-- What a continuation of the abstract machine comes to, of the real one. -/
def KOk (B : Kept) (nt : Nat) (m : MP) (h : AHeap) (w : World) (ds : List Deferred) (k : KX) (r : Ans) (Q : Exit → Act → World → Prop) : Prop :=
  ∀ S e tm' h' m' w' a' e', k e tm' h' = some r → Gr h m h' m' → HRel S m' h' w' → TRel nt m' tm' a' → Ends B S w w' ds a'.defers → XRel m' e e' → Q e' a' w'

theorem KOk.from_ {nt : Nat} {B S : Kept} {m m' : MP} {h h' : AHeap} {w w' : World} {ds ds' : List Deferred} {k : KX} {r : Ans} {Q : Exit → Act → World → Prop} (hh : KOk B nt m h w ds k r Q) (hm : Gr h m h' m') (hb : Ends B S w w' ds ds') : KOk S nt m' h' w' ds' k r Q :=
  fun S' e tm h2 m2 w2 a e' hk hm2 H T hd hx => hh S' e tm h2 m2 w2 a e' hk (hm.trans hm2) H T (hb.trans hd) hx
theorem KOk.bel {nt : Nat} {B : Kept} {m m' : MP} {h h' : AHeap} {w w' : World} {ds : List Deferred} {k : KX} {r : Ans} {Q : Exit → Act → World → Prop} (hh : KOk B nt m h w ds k r Q) (hm : Gr h m h' m') (hb : Bel B w w') : KOk B nt m' h' w' ds k r Q := hh.from_ hm (.of_bel ds hb)

/-- Within a round of a loop, the loop's record is there. -/
def Rnd (ro : Option Nat) (B : Kept) (w : World) : Prop := ∀ l, ro = some l → B l ∧ ∃ r, w.heap[l]? = some (.loop r)
theorem Rnd.ends {ro : Option Nat} {B S : Kept} {w w' : World} {ds ds' : List Deferred} (h : Rnd ro B w) (k : Ends B S w w' ds ds') : Rnd ro S w' := fun l e => by
  obtain ⟨hb, r, hr⟩ := h l e
  exact ⟨k.sub hb, r, (k.bel.block l hb).trans hr⟩

section
variable {P : Program} {E : Env} {G nt : Nat} {B : Kept}
variable {m : MP} {h : AHeap} {w : World} {tm : PT Value} {a : Act} {call : Call} {k : KX} {r : Ans} {Q : Exit → Act → World → Prop}

theorem put_defers (a : Act) (d : Option Tmp) (v : Value) : (a.put d v).defers = a.defers := by cases d <;> rfl

theorem TRel.same {t : Nat} {v : Value} (T : TRel nt m tm a) (ht : Amb.opnd tm (.tmp t) = v) : TRel nt m (tm.set t (some v)) a := by
  refine ⟨T.sz, fun q hq => ?_⟩
  have := T.slot q hq
  have e : Amb.opnd (tm.set t (some v)) (.tmp q) = Amb.opnd tm (.tmp q) := by
    by_cases e : q = t
    · subst e; rw [ht]; simp [Amb.opnd, PT.get_set]
    · simp only [Amb.opnd, PT.get_set]; rw [if_neg e]
  rw [e]
  exact this

/-- A guard, side by side. -/
theorem guard_sound {ops : Array Oper} {o : Oper} {yes no : PT Value → Option Ans} (T : TRel nt m tm a) (hg : (match o.guard with | none => true | some (j, _) => match gslot ops j with | some d => Nat.blt d nt | none => true) = true)
    (e : evGuard ops o tm yes no = some r) :
    (Region.wanted o (yielded ops a.tmps) = true ∧ ∃ tm', TRel nt m tm' a ∧ yes tm' = some r) ∨ (Region.wanted o (yielded ops a.tmps) = false ∧ ∃ tm', TRel nt m tm' a ∧ no tm' = some r) := by
  unfold evGuard at e
  split at e
  · rename_i hn
    exact .inl ⟨by simp [Region.wanted, hn], tm, T, e⟩
  · rename_i j want hs
    rw [hs] at hg
    obtain ⟨d, ed, e1⟩ := ob_eq e
    clear e
    simp only [ed] at hg
    have hd : d < nt := Nat.blt_eq.mp hg
    have hv : VRel m (opnd tm (.tmp d)) (a.tmps.getD d Go.undef) := T.slot d hd
    have hsz := T.sz
    have hlt : d < a.tmps.size := Nat.lt_of_lt_of_le hd hsz
    have hget : a.tmps[d]? = some (a.tmps.getD d Go.undef) := by
      rw [Array.getElem?_eq_getElem hlt]
      simp [Array.getD, hlt]
    have hyield : yielded ops a.tmps j = match a.tmps.getD d Go.undef with | .bool b => some b | _ => none := by
      unfold gslot at ed
      unfold yielded
      split at ed
      · rename_i o' ho'
        simp only [ho', Option.bind_some, ed, hget]
        cases a.tmps.getD d Go.undef <;> rfl
      · cases ed
    split at e1
    · rename_i b ho
      rw [ho] at hv
      have hv := hv.bool_inv
      rw [hv] at hyield
      have T' := T.same ho
      have hw : Region.wanted o (yielded ops a.tmps) = (b == want) := by simp [Region.wanted, hs, hyield]
      rw [hw]
      cases b <;> cases want
      · exact .inl ⟨rfl, _, T', e1⟩
      · exact .inr ⟨rfl, _, T', e1⟩
      · exact .inr ⟨rfl, _, T', e1⟩
      · exact .inl ⟨rfl, _, T', e1⟩
    · rename_i c ho
      rw [ho] at hv
      obtain ⟨c', hv, _⟩ := hv.tuple_inv
      rw [hv] at hyield
      have hw : Region.wanted o (yielded ops a.tmps) = false := by simp [Region.wanted, hs, hyield]
      exact .inr ⟨hw, tm, T, e1⟩
    · cases e1

theorem evOps_sound {ro : Option Nat} {dep : Nat} (hE : E.Ok P G) (hG : ∀ i, i < G → B.old i) (hcall : CallOk P B call) {ops : Array Oper} (hops : ops.toList.all (operOk nt G ops) = true) : ∀ (l : List Oper) (i : Nat) {m : MP} {h : AHeap} {w : World} {tm : PT Value} {a : Act},
    ops.toList.drop i = l → evOps E call ops l tm h k = some r → HRel B m h w → TRel nt m tm a → KOk B nt m h w a.defers k r Q → wpOpsIn (FR ro) dep P ops Q (List.range' i l.length) a w := by
  intro l
  induction l with
  | nil =>
    intro i m h w tm a _ e H T hk
    exact hk _ _ _ _ _ _ _ _ e (Gr.refl h m) H T (.of_bel _ (Bel.refl B w)) .normal
  | cons o l ih =>
    intro i m h w tm a hl e H T hk
    have hi : ops[i]? = some o := by
      have : (ops.toList.drop i)[0]? = some o := by rw [hl]; rfl
      rw [List.getElem?_drop] at this
      simpa using this
    have hl' : ops.toList.drop (i + 1) = l := by
      rw [← List.drop_drop, hl]
      rfl
    have hok : operOk nt G ops o = true := List.all_eq_true.1 hops o (by
      have := List.mem_of_getElem? (show ops.toList[i]? = some o by simpa using hi)
      exact this)
    unfold operOk at hok
    rw [Bool.and_eq_true] at hok
    simp only [List.length_cons, List.range'_succ]
    rw [wpOpsIn_cons]
    unfold wpOpIn
    rw [hi]
    simp only
    rcases guard_sound T hok.2 e with ⟨hw, tm', T', e'⟩ | ⟨hw, tm', T', e'⟩
    · rw [hw]
      simp only [if_true]
      refine evOpX_soundIn hE hG hcall H T' hok.1 e' ?_ ?_
      · intro v h' m' w' v' hk' hm H' hv hb
        exact ih (i + 1) hl' hk' H' ((T'.mono hm.le).put o.dst hv) (by rw [put_defers]; exact hk.bel hm hb)
      · intro v h' m' w' v' hk' hm H' hv hb
        exact hk _ _ _ _ _ _ _ _ hk' hm H' (T'.mono hm.le) (.of_bel _ hb) (.panic hv)
    · rw [hw]
      simp only [Bool.false_eq_true, if_false]
      exact ⟨fun _ _ => trivial, ih (i + 1) hl' e' H (T'.put o.dst VRel.undef) (by rw [put_defers]; exact hk)⟩

/-- What is asked of the way that regions go whose order is open. -/
def DrawOk (P : Program) (B : Kept) (G : Nat) (D : Dr) (draw : Nat → Array Oper → PT Value → AHeap → KX → Option Ans) : Prop :=
  ∀ {ro : Option Nat} {dep : Nat} {ops : Array Oper} {tm : PT Value} {h : AHeap} {k : KX} {r : Ans} {nt : Nat} {m : MP} {w : World} {a : Act} {Q : Exit → Act → World → Prop} (id : Nat),
    draw id ops tm h k = some r → codeOk nt G D (.region id ops true) = true → HRel B m h w → TRel nt m tm a → KOk B nt m h w a.defers k r Q → (Code.region id ops true).wpIn (FR ro) dep P Q a w

theorem loop_sound {ro : Option Nat} {dep : Nat} {body : PT Value → AHeap → KX → Option Ans} {c : Code}
    (hbody : ∀ {B : Kept} {k : KX} {r : Ans} {m : MP} {h : AHeap} {w : World} {tm : PT Value} {a : Act} {Q : Exit → Act → World → Prop}, (∀ i, i < G → B.old i) → body tm h k = some r → HRel B m h w → TRel nt m tm a → Rnd ro B w → KOk B nt m h w a.defers k r Q → c.wpIn (FR ro) dep P Q a w) :
    ∀ (n : Nat) {B : Kept} {m : MP} {h : AHeap} {w : World} {tm : PT Value} {a : Act}, (∀ i, i < G → B.old i) → loopE body n tm h k = some r → HRel B m h w → TRel nt m tm a → Rnd ro B w → KOk B nt m h w a.defers k r Q →
      Code.roundsIn (FR ro) dep P c Q n a w := by
  intro n
  induction n with
  | zero => intro B m h w tm a _ e; cases e
  | succ n ih =>
    intro B m h w tm a hG e H T hr hk
    rw [roundsIn_succ]
    refine hbody (k := fun e tm h => match e with | .normal => loopE body n tm h k | e => k e tm h) (r := r) hG e H T hr ?_
    intro S e1 tm' h' m' w' a' e' hk' hm H' T' hd hx
    cases hx with
    | normal => exact ih (by rw [hd.old]; exact hG) hk' H' T' (hr.ends hd) (hk.from_ hm hd)
    | exit id => exact hk _ _ _ _ _ _ _ _ hk' hm H' T' hd (.exit id)
    | ret => exact hk _ _ _ _ _ _ _ _ hk' hm H' T' hd .ret
    | panic hv => exact hk _ _ _ _ _ _ _ _ hk' hm H' T' hd (.panic hv)

end
end Go.Amb
