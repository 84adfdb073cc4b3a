/- Part of the proof by the abstract machine: no claim of its own. -/
import Derived.Test.YtnfncnchbogncaaRB
set_option linter.unusedSimpArgs false
set_option linter.unusedVariables false
set_option linter.unnecessarySimpa false
set_option linter.unusedSectionVars false
section
/- Automata being laid, the document's way: what is laid, functional; the reference's words. -/
set_option linter.unusedVariables false
set_option linter.unusedSimpArgs false
namespace Go.Amb
open Go.Proofs

theorem call_stateR (X : Call) (n : Nat) {h : AHeap} {N Q : Nat} {rest : List Value} {pins : List (Nat × AObj)} {s : List NS} {fp : List Nat} (H : Ctx h N Q 110 rest pins s fp) (ht : tot s ≤ 1000000) :
    ∃ h' fp', Ctx h' N Q 110 rest pins (newS s) fp' ∧ Fr h h' fp fp' ∧ ∀ (K kp : K2), cCall (evF EK X (n + 1)) 100 [P0 Q 0] [(false, [.int .i64])] h K kp = K (I s.length) h' := by
  obtain ⟨h', fp', e, r, f⟩ := ev100 X n H.rep (by unfold tot at ht; simp only [AHeap.most]; omega)
  refine ⟨h', fp', H.step r f, f, fun K kp => ?_⟩
  rw [cCall_ret e]
  simp only [asRetL_one, asTIL_one, asLK_int]
theorem call_freeR (X : Call) (n : Nat) {h : AHeap} {N Q : Nat} {rest : List Value} {pins : List (Nat × AObj)} {s : List NS} {fp : List Nat} (H : Ctx h N Q 110 rest pins s fp) (ht : tot s ≤ 1000000) {a : Nat} (t : Nat) (ha : a < s.length) :
    ∃ h' fp', Ctx h' N Q 110 rest pins (frS s a t) fp' ∧ Fr h h' fp fp' ∧ ∀ (K kp : K2), cCall (evF EK X (n + 1)) 101 [P0 Q 0, I a, I t] [] h K kp = K (.tuple #[]) h' := by
  have hs : s[a]? = some s[a] := List.getElem?_eq_getElem ha
  generalize s[a] = st at hs
  have hl := totF_at hs
  obtain ⟨h', fp', e, r, f⟩ := ev101 X n H.rep hs t (by unfold tot at ht; simp only [AHeap.most]; omega)
  have hfr : frS s a t = setFree s a (st.free ++ [(t : Int)]) := by unfold frS; rw [hs]
  rw [← hfr] at r
  refine ⟨h', fp', H.step r f, f, fun K kp => ?_⟩
  rw [cCall_ret e]
  simp only [asRetL_unit]

/-! ### What the document lays -/
def tiesR (a b : Nat) : List Nat → List Nat → List NS → List NS
  | i :: is, o :: os, s => tiesR a b is os (frS (frS s a i) o b)
  | _, _, s => s
mutual
def layR : Pat → List NS → Nat × Nat × List NS
  | .mk op cs ks, s =>
    if op = 2 then headR ks s
    else if op = 3 then
      let x := kidsR ks [] [] (newS s)
      (s.length, x.2.2.length, tiesR s.length x.2.2.length x.1 x.2.1 (newS x.2.2))
    else if op = 4 ∨ op = 5 ∨ op = 6 then
      let x := firstR ks (newS s)
      (s.length, x.2.2.length, tieP op s.length x.1 x.2.1 x.2.2.length (newS x.2.2))
    else (s.length, s.length + 1, if op = 0 then frS (newS (newS s)) s.length (s.length + 1) else edS (newS (newS s)) s.length cs (s.length + 1))
def headR : List Pat → List NS → Nat × Nat × List NS
  | [], s => (0, 0, s)
  | k :: r, s => chainR r (layR k s).1 (layR k s).2.1 (layR k s).2.2
def firstR : List Pat → List NS → Nat × Nat × List NS
  | [], s => (0, 0, s)
  | k :: _, s => layR k s
def chainR : List Pat → Nat → Nat → List NS → Nat × Nat × List NS
  | [], i, o, s => (i, o, s)
  | k :: r, i, o, s => chainR r i (layR k s).2.1 (frS (layR k s).2.2 o (layR k s).1)
def kidsR : List Pat → List Nat → List Nat → List NS → List Nat × List Nat × List NS
  | [], ins, outs, s => (ins, outs, s)
  | k :: r, ins, outs, s => kidsR r (ins ++ [(layR k s).1]) (outs ++ [(layR k s).2.1]) (layR k s).2.2
end
theorem layR_eq (p : Pat) (s : List NS) : layR p s = if p.op = 2 then headR p.kids s
    else if p.op = 3 then (s.length, (kidsR p.kids [] [] (newS s)).2.2.length, tiesR s.length (kidsR p.kids [] [] (newS s)).2.2.length (kidsR p.kids [] [] (newS s)).1 (kidsR p.kids [] [] (newS s)).2.1 (newS (kidsR p.kids [] [] (newS s)).2.2))
    else if p.op = 4 ∨ p.op = 5 ∨ p.op = 6 then (s.length, (firstR p.kids (newS s)).2.2.length, tieP p.op s.length (firstR p.kids (newS s)).1 (firstR p.kids (newS s)).2.1 (firstR p.kids (newS s)).2.2.length (newS (firstR p.kids (newS s)).2.2))
    else (s.length, s.length + 1, if p.op = 0 then frS (newS (newS s)) s.length (s.length + 1) else edS (newS (newS s)) s.length p.cls (s.length + 1)) := by
  cases p with
  | mk op cs ks => rw [layR]; rfl

/-! ### It is what the program lays -/
theorem get_setFree_ne (l : List Int) : ∀ (s : List NS) (a b : Nat), a ≠ b → (setFree s a l)[b]? = s[b]? := by
  intro s
  induction s with
  | nil => intro a b _; rfl
  | cons x s ih =>
    intro a b h
    cases a with
    | zero => cases b with
      | zero => exact absurd rfl h
      | succ b => rfl
    | succ a => cases b with
      | zero => rfl
      | succ b => simp only [setFree, List.getElem?_cons_succ]; exact ih a b (by omega)
theorem get_setFree_same (l : List Int) : ∀ (s : List NS) (a : Nat) (st : NS), s[a]? = some st → (setFree s a l)[a]? = some ⟨st.edges, l⟩ := by
  intro s
  induction s with
  | nil => intro a st e; simp at e
  | cons x s ih =>
    intro a st e
    cases a with
    | zero => simp at e; subst e; rfl
    | succ a => simp at e; simp only [setFree, List.getElem?_cons_succ]; exact ih a st e
theorem setFree_comm (l m : List Int) : ∀ (s : List NS) (a b : Nat), a ≠ b → setFree (setFree s a l) b m = setFree (setFree s b m) a l := by
  intro s
  induction s with
  | nil => intro a b _; rfl
  | cons x s ih =>
    intro a b h
    cases a with
    | zero => cases b with
      | zero => exact absurd rfl h
      | succ b => rfl
    | succ a => cases b with
      | zero => rfl
      | succ b => simp only [setFree]; rw [ih a b (by omega)]
theorem setFree_edges (l : List Int) (m : List (List Int × Int)) : ∀ (s : List NS) (a b : Nat), a ≠ b → setEdges (setFree s a l) b m = setFree (setEdges s b m) a l := by
  intro s
  induction s with
  | nil => intro a b _; rfl
  | cons x s ih =>
    intro a b h
    cases a with
    | zero => cases b with
      | zero => exact absurd rfl h
      | succ b => rfl
    | succ a => cases b with
      | zero => rfl
      | succ b => simp only [setFree, setEdges]; rw [ih a b (by omega)]
theorem setFree_append (l : List Int) : ∀ (s t : List NS) (a : Nat), a < s.length → setFree (s ++ t) a l = setFree s a l ++ t := by
  intro s
  induction s with
  | nil => intro t a h; simp at h
  | cons x s ih =>
    intro t a h
    cases a with
    | zero => rfl
    | succ a => simp only [List.cons_append, setFree]; rw [ih t a (by simpa using h)]
theorem newS_setFree (s : List NS) (a : Nat) (l : List Int) (h : a < s.length) : newS (setFree s a l) = setFree (newS s) a l := (setFree_append l s _ a h).symm
theorem frS_setFree (s : List NS) (a b t : Nat) (l : List Int) (h : a ≠ b) : frS (setFree s a l) b t = setFree (frS s b t) a l := by
  unfold frS
  rw [get_setFree_ne l s a b h]
  cases s[b]? with
  | none => rfl
  | some st => exact setFree_comm l _ s a b h
theorem outsP_setFree (b : Nat) (a : Nat) (l : List Int) : ∀ (os : List Nat) (s : List NS), (∀ o ∈ os, a ≠ o) → outsP b os (setFree s a l) = setFree (outsP b os s) a l := by
  intro os
  induction os with
  | nil => intro s _; rfl
  | cons o os ih =>
    intro s h
    simp only [outsP]
    rw [frS_setFree s a o b l (h o List.mem_cons_self), ih _ fun o ho => h o (List.mem_cons_of_mem _ ho)]
theorem tieP_setFree (op : Int) (c i o b a : Nat) (l : List Int) (s : List NS) (h1 : a ≠ c) (h2 : a ≠ o) : tieP op c i o b (setFree s a l) = setFree (tieP op c i o b s) a l := by
  unfold tieP tie3 tie2
  rw [frS_setFree s a c i l h1]
  by_cases e5 : op = 5 <;> by_cases e6 : op = 6 <;> simp only [e5, e6, if_true, if_false] <;> simp [frS_setFree _ a c _ l h1, frS_setFree _ a o _ l h2] <;> split <;> simp [frS_setFree _ a o _ l h2]
end Go.Amb
end

section
/- Both orders lay the same. -/
set_option linter.unusedVariables false
set_option linter.unusedSimpArgs false
namespace Go.Amb

theorem layP_mk (op : Int) (cs : List Int) (ks : List Pat) (s : List NS) : layP (.mk op cs ks) s = if op = 2 then headP ks s
    else if op = 3 then (s.length, (kidsP s.length ks [] (newS s)).2.length, outsP (kidsP s.length ks [] (newS s)).2.length (kidsP s.length ks [] (newS s)).1 (newS (kidsP s.length ks [] (newS s)).2))
    else if op = 4 ∨ op = 5 ∨ op = 6 then (s.length, (firstP ks (newS s)).2.2.length, tieP op s.length (firstP ks (newS s)).1 (firstP ks (newS s)).2.1 (firstP ks (newS s)).2.2.length (newS (firstP ks (newS s)).2.2))
    else (s.length, s.length + 1, if op = 0 then frS (newS (newS s)) s.length (s.length + 1) else edS (newS (newS s)) s.length cs (s.length + 1)) := by rw [layP]
theorem layR_mk (op : Int) (cs : List Int) (ks : List Pat) (s : List NS) : layR (.mk op cs ks) s = if op = 2 then headR ks s
    else if op = 3 then (s.length, (kidsR ks [] [] (newS s)).2.2.length, tiesR s.length (kidsR ks [] [] (newS s)).2.2.length (kidsR ks [] [] (newS s)).1 (kidsR ks [] [] (newS s)).2.1 (newS (kidsR ks [] [] (newS s)).2.2))
    else if op = 4 ∨ op = 5 ∨ op = 6 then (s.length, (firstR ks (newS s)).2.2.length, tieP op s.length (firstR ks (newS s)).1 (firstR ks (newS s)).2.1 (firstR ks (newS s)).2.2.length (newS (firstR ks (newS s)).2.2))
    else (s.length, s.length + 1, if op = 0 then frS (newS (newS s)) s.length (s.length + 1) else edS (newS (newS s)) s.length cs (s.length + 1)) := by rw [layR]
theorem kidsP_outs (a0 : Nat) : ∀ (ks : List Pat) (outs : List Nat) (s : List NS), GoodL ks → ∀ o ∈ (kidsP a0 ks outs s).1, o ∈ outs ∨ s.length ≤ o := by
  intro ks
  induction ks with
  | nil => intro outs s _ o ho; unfold kidsP at ho; exact .inl ho
  | cons k r ih =>
    intro outs s hg o ho
    unfold GoodL at hg
    unfold kidsP at ho
    have hl := (layP_lies k s hg.1)
    have h1 := hl.o
    have h2 := hl.i
    rcases ih _ _ hg.2 o ho with q | q
    · rcases List.mem_append.1 q with q | q
      · exact .inl q
      · simp at q; exact .inr (by omega)
    · simp at q; exact .inr (by omega)

@[simp] theorem length_setFree' (l : List Int) (s : List NS) (a : Nat) : (setFree s a l).length = s.length := length_setFree l s a
mutual
theorem layP_nat (a : Nat) (l : List Int) : ∀ (p : Pat) (s : List NS), GoodP p → a < s.length → layP p (setFree s a l) = ((layP p s).1, (layP p s).2.1, setFree (layP p s).2.2 a l)
  | .mk op cs ks, s, h, ha => by
    obtain ⟨hk2, hk1, hop⟩ := good_kids h
    have hg := h.eq.2.2
    simp only [Pat.op, Pat.kids] at hk2 hk1 hop hg
    rw [layP_mk, layP_mk]
    by_cases h2 : op = 2
    · simp only [if_pos h2]
      have := hk2 (.inl h2)
      match ks, this, hg with
      | k :: r, _, hg =>
        unfold GoodL at hg
        have e := layP_nat a l k s hg.1 ha
        have hl := layP_lies k s hg.1
        have h1 := hl.o
        have h0 := hl.i
        simp only [headP, e]
        exact chainP_nat a l r _ _ _ hg.2 (by omega) (by omega)
    · simp only [if_neg h2]
      by_cases h3 : op = 3
      · simp only [if_pos h3]
        have e := kidsP_nat a l s.length ks [] (newS s) hg (by simp; omega) (by omega)
        rw [← newS_setFree s a l ha] at e
        have hlen : (setFree s a l).length = s.length := by simp
        rw [hlen]
        simp only [e]
        obtain ⟨q1, _⟩ := kidsP_lies s.length ks [] (newS s) hg
        simp at q1
        simp only [length_setFree']
        rw [newS_setFree _ a l (by omega), outsP_setFree]
        intro o ho
        rcases kidsP_outs s.length ks [] (newS s) hg o ho with q | q
        · cases q
        · simp at q; omega
      · simp only [if_neg h3]
        by_cases h4 : op = 4 ∨ op = 5 ∨ op = 6
        · simp only [if_pos h4]
          have := hk1 h4
          match ks, this, hg with
          | [k], _, hg =>
            unfold GoodL at hg
            have e := layP_nat a l k (newS s) hg.1 (by simp; omega)
            rw [← newS_setFree s a l ha] at e
            have hl := layP_lies k (newS s) hg.1
            have h1 := hl.o
            have h0 := hl.i
            simp at h1 h0
            simp only [firstP, e, length_setFree']
            rw [newS_setFree _ a l (by omega), tieP_setFree _ _ _ _ _ _ _ _ (by omega) (by omega)]
        · simp only [if_neg h4]
          have e1 : newS (newS (setFree s a l)) = setFree (newS (newS s)) a l := by
            rw [newS_setFree s a l ha, newS_setFree (newS s) a l (by simp; omega)]
          simp only [length_setFree', e1]
          by_cases h0 : op = 0
          · simp only [h0, if_true]
            rw [frS_setFree _ a _ _ l (by omega)]
          · simp only [h0, if_false]
            unfold edS
            rw [setFree_edges l _ _ a _ (by omega)]
theorem chainP_nat (a : Nat) (l : List Int) : ∀ (ks : List Pat) (i o : Nat) (s : List NS), GoodL ks → a < s.length → a ≠ o → chainP ks i o (setFree s a l) = ((chainP ks i o s).1, (chainP ks i o s).2.1, setFree (chainP ks i o s).2.2 a l)
  | [], i, o, s, _, ha, ho => by unfold chainP; rfl
  | k :: r, i, o, s, hg, ha, ho => by
    unfold GoodL at hg
    have e := layP_nat a l k s hg.1 ha
    have hl := layP_lies k s hg.1
    have h1 := hl.o
    have h0 := hl.i
    rw [chainP, chainP]
    simp only [e]
    rw [frS_setFree _ a o _ l ho]
    exact chainP_nat a l r _ _ _ hg.2 (by simp; omega) (by omega)
theorem kidsP_nat (a : Nat) (l : List Int) (a0 : Nat) : ∀ (ks : List Pat) (outs : List Nat) (s : List NS), GoodL ks → a < s.length → a ≠ a0 → kidsP a0 ks outs (setFree s a l) = ((kidsP a0 ks outs s).1, setFree (kidsP a0 ks outs s).2 a l)
  | [], outs, s, _, ha, ho => by unfold kidsP; rfl
  | k :: r, outs, s, hg, ha, ho => by
    unfold GoodL at hg
    have e := layP_nat a l k s hg.1 ha
    have hl := layP_lies k s hg.1
    have h1 := hl.o
    have h0 := hl.i
    rw [kidsP, kidsP]
    simp only [e]
    rw [frS_setFree _ a a0 _ l ho]
    exact kidsP_nat a l a0 r _ _ hg.2 (by simp; omega) ho
end

def insP (a : Nat) : List Nat → List NS → List NS
  | [], s => s
  | x :: r, s => insP a r (frS s a x)
theorem setFree_self : ∀ (s : List NS) (a : Nat) (st : NS), s[a]? = some st → setFree s a st.free = s := by
  intro s
  induction s with
  | nil => intro a st e; simp at e
  | cons x s ih =>
    intro a st e
    cases a with
    | zero => simp at e; subst e; rfl
    | succ a => simp at e; simp only [setFree]; rw [ih a st e]
theorem setFree_twice (l m : List Int) : ∀ (s : List NS) (a : Nat), setFree (setFree s a l) a m = setFree s a m := by
  intro s
  induction s with
  | nil => intro a; rfl
  | cons x s ih => intro a; cases a with | zero => rfl | succ a => simp only [setFree]; rw [ih a]
theorem insP_eq (a : Nat) : ∀ (l : List Nat) (s : List NS) (st : NS), s[a]? = some st → insP a l s = setFree s a (st.free ++ nats l) := by
  intro l
  induction l with
  | nil => intro s st e; simp [insP, nats, setFree_self s a st e]
  | cons x l ih =>
    intro s st e
    have hf : frS s a x = setFree s a (st.free ++ [(x : Int)]) := by unfold frS; rw [e]
    simp only [insP]
    rw [hf, ih _ _ (get_setFree_same _ s a st e), setFree_twice]
    simp [nats]
theorem insP_snoc (a x : Nat) : ∀ (l : List Nat) (s : List NS), insP a (l ++ [x]) s = frS (insP a l s) a x := by
  intro l
  induction l with
  | nil => intro s; rfl
  | cons y l ih => intro s; simp only [List.cons_append, insP]; rw [ih]
@[simp] theorem length_insP (a : Nat) : ∀ (l : List Nat) (s : List NS), (insP a l s).length = s.length := by
  intro l
  induction l with
  | nil => intro s; rfl
  | cons x l ih => intro s; simp [insP, ih]
/-- What was there keeps its list. -/
theorem layP_ins (a : Nat) (l : List Nat) {p : Pat} {s : List NS} (hg : GoodP p) (ha : a < s.length) : layP p (insP a l s) = ((layP p s).1, (layP p s).2.1, insP a l (layP p s).2.2) := by
  have hs : s[a]? = some s[a] := List.getElem?_eq_getElem ha
  generalize s[a] = st at hs
  have hl := layP_lies p s hg
  have ha' : a < (layP p s).2.2.length := by have := hl.i; omega
  have hs' : (layP p s).2.2[a]? = some (layP p s).2.2[a] := List.getElem?_eq_getElem ha'
  generalize (layP p s).2.2[a] = st' at hs'
  have hid := layP_nat a st.free p s hg ha
  rw [setFree_self s a st hs] at hid
  have h3 : (layP p s).2.2 = setFree (layP p s).2.2 a st.free := congrArg (fun x => x.2.2) hid
  have hfree : st'.free = st.free := by
    have := get_setFree_same st.free (layP p s).2.2 a st' hs'
    rw [← h3] at this
    have e9 : st' = ⟨st'.edges, st.free⟩ := Option.some.inj (hs'.symm.trans this)
    rw [e9]
  rw [insP_eq a l s st hs, layP_nat a _ p s hg ha, insP_eq a l _ st' hs', hfree]
theorem tiesR_eq (a b : Nat) : ∀ (is os : List Nat) (s : List NS), is.length = os.length → (∀ o ∈ os, a ≠ o) → tiesR a b is os s = outsP b os (insP a is s) := by
  intro is
  induction is with
  | nil => intro os s h _; cases os with
    | nil => rfl
    | cons _ _ => simp at h
  | cons i is ih =>
    intro os s h ho
    cases os with
    | nil => simp at h
    | cons o os =>
      simp only [tiesR, insP, outsP]
      rw [ih os _ (by simpa using h) fun o' h' => ho o' (List.mem_cons_of_mem _ h')]
      congr 1
      have key : ∀ (l : List Nat) (s : List NS), insP a l (frS s o b) = frS (insP a l s) o b := by
        intro l
        induction l with
        | nil => intro s; rfl
        | cons x l ih2 =>
          intro s
          simp only [insP]
          rw [← ih2]
          congr 1
          have hne := ho o List.mem_cons_self
          unfold frS
          cases hsa : s[a]? with
          | none =>
            cases hso : s[o]? with
            | none => simp [hsa, hso]
            | some y => simp only [hsa, hso]; rw [get_setFree_ne _ s o a (fun e => hne e.symm), hsa]
          | some x =>
            cases hso : s[o]? with
            | none => simp only [hsa, hso]; rw [get_setFree_ne _ s a o hne, hso]
            | some y =>
              simp only [hsa, hso]
              rw [get_setFree_ne _ s a o hne, hso, get_setFree_ne _ s o a (fun e => hne e.symm), hsa]
              exact setFree_comm _ _ s o a (fun e => hne e.symm)
      exact (key is _)
theorem newS_insP (a : Nat) : ∀ (l : List Nat) (s : List NS), a < s.length → newS (insP a l s) = insP a l (newS s) := by
  intro l s ha
  have hs : s[a]? = some s[a] := List.getElem?_eq_getElem ha
  generalize s[a] = st at hs
  rw [insP_eq a l s st hs, newS_setFree s a _ ha, insP_eq a l (newS s) st (by unfold newS; rw [List.getElem?_append_left ha]; exact hs)]

mutual
theorem layR_P : ∀ (p : Pat) (s : List NS), GoodP p → layR p s = layP p s
  | .mk op cs ks, s, h => by
    obtain ⟨hk2, hk1, hop⟩ := good_kids h
    have hg := h.eq.2.2
    simp only [Pat.op, Pat.kids] at hk2 hk1 hop hg
    rw [layP_mk, layR_mk]
    by_cases h2 : op = 2
    · simp only [if_pos h2]
      have := hk2 (.inl h2)
      match ks, this, hg with
      | k :: r, _, hg =>
        unfold GoodL at hg
        simp only [headP, headR, layR_P k s hg.1]
        exact chainR_P r _ _ _ hg.2
    · simp only [if_neg h2]
      by_cases h3 : op = 3
      · simp only [if_pos h3]
        have e := kidsR_P s.length ks [] [] (newS s) hg (by simp)
        simp only [insP] at e
        obtain ⟨q1, q2, _⟩ := kidsP_lies s.length ks [] (newS s) hg
        have hq := kidsP_outs s.length ks [] (newS s) hg
        rw [e] at q1 q2 hq ⊢
        simp only [length_insP] at q1 q2 ⊢
        have hlen := kidsR_len ks [] [] (newS s) (by rfl)
        simp at q1
        rw [newS_insP _ _ _ (by omega), tiesR_eq _ _ _ _ _ hlen fun o ho => ?_]
        rcases hq o ho with q | q
        · cases q
        · simp at q; omega
      · simp only [if_neg h3]
        by_cases h4 : op = 4 ∨ op = 5 ∨ op = 6
        · simp only [if_pos h4]
          have := hk1 h4
          match ks, this, hg with
          | [k], _, hg =>
            unfold GoodL at hg
            simp only [firstP, firstR, layR_P k (newS s) hg.1]
        · simp only [if_neg h4]
theorem chainR_P : ∀ (ks : List Pat) (i o : Nat) (s : List NS), GoodL ks → chainR ks i o s = chainP ks i o s
  | [], i, o, s, _ => by unfold chainP chainR; rfl
  | k :: r, i, o, s, hg => by
    unfold GoodL at hg
    rw [chainP, chainR, layR_P k s hg.1]
    exact chainR_P r _ _ _ hg.2
theorem kidsR_P (a : Nat) : ∀ (ks : List Pat) (ins outs : List Nat) (s : List NS), GoodL ks → a < s.length → kidsP a ks outs (insP a ins s) = ((kidsR ks ins outs s).2.1, insP a (kidsR ks ins outs s).1 (kidsR ks ins outs s).2.2)
  | [], ins, outs, s, _, _ => by unfold kidsP kidsR; rfl
  | k :: r, ins, outs, s, hg, ha => by
    unfold GoodL at hg
    rw [kidsP, kidsR, layR_P k s hg.1, layP_ins a ins hg.1 ha]
    simp only
    rw [← insP_snoc]
    have := (layP_lies k s hg.1).i
    exact kidsR_P a r _ _ _ hg.2 (by omega)
theorem kidsR_len : ∀ (ks : List Pat) (ins outs : List Nat) (s : List NS), ins.length = outs.length → (kidsR ks ins outs s).1.length = (kidsR ks ins outs s).2.1.length
  | [], ins, outs, s, h => by unfold kidsR; exact h
  | k :: r, ins, outs, s, h => by
    rw [kidsR]
    exact kidsR_len r _ _ _ (by simp [h])
end
end Go.Amb
end

section
/- Automata being laid, the document's way: one of several. -/
set_option linter.unusedVariables false
set_option linter.unusedSimpArgs false
namespace Go.Amb
open Go.Proofs

/-- A list of numbers of its own, beside. -/
def LA (h : AHeap) (fp : List Nat) (e : Nat) (l : List Nat) (v : Value) (F : Option Nat) : Prop :=
  (l = [] ∧ v = nilS ∧ F = none) ∨ ∃ f, F = some f ∧ l ≠ [] ∧ v = S0 f 0 l.length l.length ∧ e ≤ f ∧ f < h.next ∧ f ∉ fp ∧ h.get f = .cells (ints (nats l)) 3 (some 1) false
theorem LA.fr {h h' : AHeap} {fp fp' : List Nat} {e : Nat} {l : List Nat} {v : Value} {F : Option Nat} (H : LA h fp e l v F) (R : Fr h h' fp fp') : LA h' fp' e l v F := by
  rcases H with H | ⟨f, h1, h2, h3, h4, h5, h6, h7⟩
  · exact .inl H
  · refine .inr ⟨f, h1, h2, h3, h4, by have := R.next; omega, fun hm => ?_, by rw [R.keep f h5 h6]; exact h7⟩
    rcases R.sub f hm with q | q
    · exact h6 q
    · omega
theorem LA.other {h h' : AHeap} {fp : List Nat} {e : Nat} {l : List Nat} {v : Value} {F G : Option Nat} (H : LA h fp e l v F) (hn : h.next ≤ h'.next) (k : ∀ i, i < h.next → G ≠ some i → h'.get i = h.get i) (hne : ∀ f, F = some f → G ≠ some f) : LA h' fp e l v F := by
  rcases H with H | ⟨f, h1, h2, h3, h4, h5, h6, h7⟩
  · exact .inl H
  · exact .inr ⟨f, h1, h2, h3, h4, by omega, h6, by rw [k f h5 (hne f h1)]; exact h7⟩
theorem LA.slc {h : AHeap} {fp : List Nat} {e : Nat} {l : List Nat} {v : Value} {F : Option Nat} (H : LA h fp e l v F) : ∃ a c, v = .slice a l.length c := by
  rcases H with ⟨rfl, rfl, _⟩ | ⟨f, _, _, rfl, _⟩ <;> exact ⟨_, _, rfl⟩
theorem LA.at {h : AHeap} {fp : List Nat} {e : Nat} {l : List Nat} {v : Value} {F : Option Nat} (H : LA h fp e l v F) {i x : Nat} (hx : l[i]? = some x) : ∃ f c, v = S0 f 0 l.length c ∧ i < l.length ∧ h.cell? f i = some (I x) := by
  rcases H with ⟨rfl, _⟩ | ⟨f, h1, h2, rfl, h4, h5, h6, h7⟩
  · simp at hx
  · refine ⟨f, _, rfl, (List.getElem?_eq_some_iff.1 hx).1, ?_⟩
    rw [cell?_of h7]
    simp [ints, nats, hx]
theorem LA.push {h : AHeap} {N Q : Nat} {T : TypeId} {rest : List Value} {pins : List (Nat × AObj)} {s : List NS} {fp : List Nat} {e : Nat} {l : List Nat} {v : Value} {F : Option Nat} (C : Ctx h N Q T rest pins s fp) (H : LA h fp e l v F) (hp : ∀ x ∈ pins, x.1 < e) (x : Nat) (he : e ≤ h.next) (hl : l.length < 1000000) :
    ∃ h' v' f', LA h' fp e (l ++ [x]) v' (some f') ∧ Ctx h' N Q T rest pins s fp ∧ h.next ≤ f' ∧ h.next ≤ h'.next ∧ (∀ i, i < h.next → F ≠ some i → h'.get i = h.get i) ∧
      ∀ K : Value → K2, (cBuildS 3 1 [(0, 1, I x)] [.int .i64 0] h fun u h1 => cAppend 3 1 8 v u h1 (K u)) = K (S0 h.next 0 1 1) v' h' := by
  have hb : (l.length + 1) * 8 ≤ AHeap.most := by simp only [AHeap.most]; omega
  have hn1 : (h.new (.cells [I x] 3 none false)).next = h.next + 1 := rfl
  have hfpn : h.next + 1 ∉ fp := fun hm => by have := C.rep.lt _ hm; omega
  rcases H with ⟨rfl, rfl, rfl⟩ | ⟨f, rfl, h2, rfl, h4, h5, h6, h7⟩
  · have F1 := (Fr.new h (.cells [I x] 3 none false) fp).trans (Fr.new _ (.cells [I x] 3 (some 1) false) fp)
    refine ⟨(h.new (.cells [I x] 3 none false)).new (.cells [I x] 3 (some 1) false), S0 (h.next + 1) 0 1 1, h.next + 1, .inr ⟨_, rfl, by simp, rfl, by omega, by show h.next + 1 < h.next + 1 + 1; omega, hfpn, get_new_self (h.new _) _⟩, C.step ((C.rep.new _).new _) F1, by omega, F1.next, fun i hi _ => by rw [get_new_lt _ (by omega), get_new_lt _ hi], fun K => ?_⟩
    simp only [cBuildS_eq, fill1, ob_some, cAppend_eq, src1 (x : Int) (get_new_self h _)]
    rw [app_nil (by decide) (by simpa using hb) (by decide) (by decide)]
    rfl
  · have hg : (h.new (.cells [I x] 3 none false)).get f = .cells (ints (nats l)) 3 (some 1) false := by rw [get_new_lt _ h5]; exact h7
    have hk : ∀ i, i < h.next → i ≠ f → (((h.new (.cells [I x] 3 none false)).set f .gone).new (.cells (ints (nats l) ++ [I x]) 3 (some 1) false)).get i = h.get i := fun i hi hne => by
      rw [get_new_lt _ (show i < ((h.new (.cells [I x] 3 none false)).set f .gone).next by rw [AHeap.next_set, hn1]; omega), AHeap.get_set_ne _ _ hne, get_new_lt _ hi]
    refine ⟨((h.new (.cells [I x] 3 none false)).set f .gone).new (.cells (ints (nats l) ++ [I x]) 3 (some 1) false), S0 (h.next + 1) 0 (l.length + 1) (l.length + 1), h.next + 1, .inr ⟨_, rfl, by simp, by simp, by omega, by show h.next + 1 < h.next + 1 + 1; omega, hfpn, ?_⟩, ⟨C.rep.frame (fun i hi => hk i (C.rep.lt i hi) fun e => h6 (by rw [← e]; exact hi)) (by show h.next ≤ h.next + 1 + 1; omega), C.low, by have := C.hn; show N ≤ h.next + 1 + 1; omega, fun q hq => ?_⟩, by omega, by show h.next ≤ h.next + 1 + 1; omega, fun i hi hne => hk i hi fun e => hne (by rw [e]), fun K => ?_⟩
    · have e1 : ints (nats (l ++ [x])) = ints (nats l) ++ [I x] := by simp [ints, nats]
      rw [e1]
      exact get_new_self ((h.new (.cells [I x] 3 none false)).set f .gone) _
    · obtain ⟨a, b, c⟩ := C.pin q hq
      exact ⟨by rw [hk _ b (by have := hp q hq; omega)]; exact a, by show q.1 < h.next + 1 + 1; omega, c⟩
    · simp only [cBuildS_eq, fill1, ob_some, cAppend_eq, src1 (x : Int) (get_new_self h _)]
      rw [app_grown hg (by simp) rfl (by decide) hb (by decide) (by decide)]
      simp only [ob_some, hn1]

def Spec63 (X : Call) (p : Pat) : Prop := ∀ (n : Nat) {N Q : Nat} {h : AHeap} {a b c : Value} {rest : List Value} {pins : List (Nat × AObj)} {s : List NS} {fp : List Nat}, PatAt N h p a b c → GoodP p → p.wt ≤ n → Ctx h N Q 110 rest pins s fp → tot s + 8 * p.nodes ≤ 1000000 →
    ∃ h' fp', Ctx h' N Q 110 rest pins (layP p s).2.2 fp' ∧ Fr h h' fp fp' ∧ evF EK X n 63 [P0 Q 0, .agg [a, b, c].toArray] h = some (.ret (.tuple #[I (layP p s).1, I (layP p s).2.1]) h')
theorem Spec63.call {X : Call} {p : Pat} (S : Spec63 X p) (n : Nat) {N Q : Nat} {h : AHeap} {a b c : Value} {rest : List Value} {pins : List (Nat × AObj)} {s : List NS} {fp : List Nat} (HP : PatAt N h p a b c) (hg : GoodP p) (hn : p.wt ≤ n) (H : Ctx h N Q 110 rest pins s fp)
    (ht : tot s + 8 * p.nodes ≤ 1000000) :
    ∃ h' fp', Ctx h' N Q 110 rest pins (layP p s).2.2 fp' ∧ Fr h h' fp fp' ∧ ∀ (K kp : K2), cCall (evF EK X n) 63 [P0 Q 0, .agg [a, b, c].toArray] [(false, [.int .i64]), (false, [.int .i64])] h K kp = K (.tuple #[I (layP p s).1, I (layP p s).2.1]) h' := by
  obtain ⟨h', fp', r, f, e⟩ := S n HP hg hn H ht
  refine ⟨h', fp', r, f, fun K kp => ?_⟩
  rw [cCall_ret e]
  simp only [asRetL_two, asResL_cons, asResL_nil, asTIL_one, asLK_int]

theorem ev102_ties (X : Call) (n lf : Nat) {N Q : Nat} {rest : List Value} {pins pins' : List (Nat × AObj)} {e : Nat} {h0 : AHeap} {fp0 : List Nat} (a0 b0 : Nat) (ins outs : List Nat) (hio : ins.length = outs.length) (v1 v2 : Value) (F1 F2 : Option Nat) (S : List NS) (K : KS)
    (kx : ∀ σ' h' fp', Ctx h' N Q 110 rest pins' S fp' → FrE e h0 h' fp0 fp' → σ' 6 = I a0 → σ' 12 = I b0 → GL N Q 110 rest pins e h0 fp0 S (.tuple #[I a0, I b0]) (K (.exit 2) σ' h')) :
    ∀ (m i f : Nat) (h : AHeap) (σ : St) (s : List NS) (fp : List Nat), ins.length - i = m → i ≤ ins.length → m < f → ins.length ≤ 400000 → Ctx h N Q 110 rest pins' s fp → LA h fp e ins v1 F1 → LA h fp e outs v2 F2 → FrE e h0 h fp0 fp → e ≤ h.next → a0 < s.length → (∀ o ∈ outs, o < s.length) → tot s + 2 * (ins.length - i) ≤ 1000000 →
    tiesR a0 b0 (ins.drop i) (outs.drop i) s = S → σ 0 = P0 Q 0 → σ 7 = v1 → σ 8 = v2 → σ 13 = I i → σ 6 = I a0 → σ 12 = I b0 →
    GL N Q 110 rest pins e h0 fp0 S (.tuple #[I a0, I b0]) (loopS (g102_L3 (evF EK X (n + 1)) lf) f σ h K) := by
  intro m
  induction m with
  | zero =>
    intro i f h σ s fp hm hi hf hl H L1 L2 F he ha ho ht hS q0 q7 q8 q13 q6 q12
    obtain ⟨f, rfl⟩ : ∃ q, f = q + 1 := ⟨f - 1, by omega⟩
    have hil : i = ins.length := by omega
    subst hil
    rw [List.drop_length] at hS
    have hS : s = S := by simpa only [tiesR] using hS
    subst hS
    obtain ⟨va, vc, hv⟩ := L1.slc
    rw [loopS_succ, g102_L3]
    simp only [q7, hv, q13, cLenS_eq, cBin_lss, Int.lt_irrefl, decide_false, cIf_eq, Bool.false_eq_true, if_false, loopK_exit]
    exact kx _ h fp H F (by simp [updL_cons, q6]) (by simp [updL_cons, q12])
  | succ m ih =>
    intro i f h σ s fp hm hi hf hl H L1 L2 F he ha ho ht hS q0 q7 q8 q13 q6 q12
    obtain ⟨f, rfl⟩ : ∃ q, f = q + 1 := ⟨f - 1, by omega⟩
    have hil : i < ins.length := by omega
    have hget : ins[i]? = some ins[i] := List.getElem?_eq_getElem hil
    have hdrop : ins.drop i = ins[i] :: ins.drop (i + 1) := List.drop_eq_getElem_cons hil
    have hil2 : i < outs.length := by omega
    have hget2 : outs[i]? = some outs[i] := List.getElem?_eq_getElem hil2
    have hdrop2 : outs.drop i = outs[i] :: outs.drop (i + 1) := List.drop_eq_getElem_cons hil2
    generalize ins[i] = x at hget hdrop
    generalize outs[i] = o at hget2 hdrop2
    rw [hdrop, hdrop2] at hS
    simp only [tiesR] at hS
    have hon := ho o (List.mem_of_getElem? hget2)
    obtain ⟨f1, c1, hv1, _, hc1⟩ := L1.at hget
    obtain ⟨h1, fp1, H1, G1, e1⟩ := call_freeR X n H (by omega) (a := a0) x ha
    have t1 := tot_frS s a0 x
    obtain ⟨f2, c2, hv2, _, hc2⟩ := (L2.fr G1).at hget2
    obtain ⟨h2, fp2, H2, G2, e2⟩ := call_freeR X n H1 (by omega) (a := o) b0 (by simp; omega)
    have t2 := tot_frS (frS s a0 x) o b0
    have G12 := G1.trans G2
    have n12 := G12.next
    have hlt : ((i : Int) < (ins.length : Int)) := by omega
    rw [loopS_succ, g102_L3]
    simp only [q0, q7, q8, q13, q6, q12, hv1, hv2, cLenS_eq, cBin_lss, hlt, decide_true, cIf_eq, if_true, cIdxS_slice, idx?_nat hil, idx?_nat hil2, ob_some, Nat.zero_add, Nat.mul_one, cLoad1_ptr, ld1_eq, hc1, hc2, asLK_int, e1, e2]
    rw [cBin_add _ _ _ (by omega) (by omega)]
    simp only [loopK_normal]
    refine ih (i + 1) f h2 _ (frS (frS s a0 x) o b0) fp2 (by omega) (by omega) (by omega) hl H2 (L1.fr G12) (L2.fr G12) (F.trans (G12.toE he)) (by omega) (by simp; omega) (fun o ho' => by simp; exact ho o ho') (by omega) hS ?_ ?_ ?_ ?_ ?_ ?_
    all_goals simp [updL_cons, q0, q7, q8, q6, q12, hv1, hv2]
theorem ev102_kids (X : Call) {p : Pat} (hS : ∀ k ∈ p.kids, Spec63 X k) (hg : GoodP p) (n lf : Nat) (hw : Pat.wtL p.kids ≤ n + 1) {N Q bx : Nat} {a b c : Value} {rest : List Value} {pins pins' : List (Nat × AObj)} {e : Nat} (hNe : N ≤ e) {h0 : AHeap} {fp0 : List Nat} (hbx : (bx, AObj.cells [a, b, c] 64 none false) ∈ pins') (hpe : ∀ x ∈ pins', x.1 < e)
    (a0 : Nat) (R : List Nat × List Nat × List NS) (S : List NS) (x : Value) (K : KS)
    (kx : ∀ σ' h' fp' v1 v2 F1 F2, Ctx h' N Q 110 rest pins' R.2.2 fp' → LA h' fp' e R.1 v1 F1 → LA h' fp' e R.2.1 v2 F2 → FrE e h0 h' fp0 fp' → e ≤ h'.next → (∀ o ∈ R.2.1, o < R.2.2.length) → a0 < R.2.2.length → σ' 0 = P0 Q 0 → σ' 7 = v1 → σ' 8 = v2 → σ' 6 = I a0 → GL N Q 110 rest pins e h0 fp0 S x (K (.exit 0) σ' h')) :
    ∀ (m i f : Nat) (h : AHeap) (σ : St) (ins outs : List Nat) (v1 v2 : Value) (F1 F2 : Option Nat) (s : List NS) (fp : List Nat), p.kids.length - i = m → i ≤ p.kids.length → m < f → PatAt N h p a b c → Ctx h N Q 110 rest pins' s fp → LA h fp e ins v1 F1 → LA h fp e outs v2 F2 → (∀ f, F1 = some f → F2 ≠ some f) → FrE e h0 h fp0 fp → e ≤ h.next → (∀ o ∈ outs, o < s.length) → a0 < s.length →
    tot s + 8 * Pat.nodesL (p.kids.drop i) ≤ 1000000 → ins.length + (p.kids.length - i) < 1000000 → ins.length = outs.length → kidsR (p.kids.drop i) ins outs s = R → σ 0 = P0 Q 0 → σ 3 = P0 bx 0 → σ 9 = I i → σ 7 = v1 → σ 8 = v2 → σ 6 = I a0 →
    GL N Q 110 rest pins e h0 fp0 S x (loopS (g102_L1 (evF EK X (n + 1)) lf) f σ h K) := by
  intro m
  induction m with
  | zero =>
    intro i f h σ ins outs v1 v2 F1 F2 s fp hm hi hf HP H L1 L2 hne F he ho ha ht hol hio hR q0 q3 q9 q7 q8 q6
    obtain ⟨f, rfl⟩ : ∃ q, f = q + 1 := ⟨f - 1, by omega⟩
    have hil : i = p.kids.length := by omega
    subst hil
    rw [List.drop_length] at hR
    unfold kidsR at hR
    subst hR
    obtain ⟨za, zc, hz, hlen⟩ := HP.kidsSlc
    rw [loopS_succ, g102_L1]
    simp only [q3, q9, cFieldAddr_ptr, Nat.zero_add, cLoad1_ptr, ld1_eq, H.cell hbx, List.getElem?_cons_zero, List.getElem?_cons_succ, ob_some, hz, asLK_slc, cLenS_eq, cBin_lss, Int.lt_irrefl, decide_false, cIf_eq, Bool.false_eq_true, if_false, loopK_exit]
    exact kx _ h fp v1 v2 F1 F2 H L1 L2 F he ho ha (by simp [updL_cons, q0]) (by simp [updL_cons, q7]) (by simp [updL_cons, q8]) (by simp [updL_cons, q6])
  | succ m ih =>
    intro i f h σ ins outs v1 v2 F1 F2 s fp hm hi hf HP H L1 L2 hne F he ho ha ht hol hio hR q0 q3 q9 q7 q8 q6
    obtain ⟨f, rfl⟩ : ∃ q, f = q + 1 := ⟨f - 1, by omega⟩
    have hil : i < p.kids.length := by omega
    have hget : p.kids[i]? = some p.kids[i] := List.getElem?_eq_getElem hil
    have hdrop : p.kids.drop i = p.kids[i] :: p.kids.drop (i + 1) := List.drop_eq_getElem_cons hil
    generalize p.kids[i] = kd at hget hdrop
    have hgk := hg.eq.2.2.at hget
    rw [hdrop] at ht hR
    simp only [Pat.nodesL] at ht
    unfold kidsR at hR
    rw [layR_P kd s hgk] at hR
    have hwk := Pat.wtL_at hget
    have hlies := layP_lies kd s hgk
    have hli := hlies.i
    have hlo := hlies.o
    have hlt := hlies.t
    obtain ⟨za, zc, hz, hlen⟩ := HP.kidsSlc
    have htop : (p.kids.length : Int) ≤ 9223372036854775807 := by unfold top at hlen; omega
    obtain ⟨j, cap, kx', ky, kz, hce, _, _, hj, HK, hkx, hky, hkz, c0, c1, c2⟩ := HP.kid hget
    rw [hz] at hce
    cases hce
    have hlt1 : ((i : Int) < (p.kids.length : Int)) := by omega
    obtain ⟨h2, fp2, H2, G2, e2⟩ := (hS kd (List.mem_of_getElem? hget)).call (n + 1) HK hgk (by omega) H (by omega)
    have n2 := G2.next
    obtain ⟨h3, w1, f1, M1, C3, hf1, n3, k3, e3⟩ := LA.push H2 (L1.fr G2) hpe (layP kd s).1 (by omega) (by omega)
    have L2' := (L2.fr G2).other n3 k3 (fun f hf hq => hne f hq hf)
    obtain ⟨h4, w2, f2, M2, C4, hf2, n4, k4, e4⟩ := LA.push C3 L2' hpe (layP kd s).2.1 (by omega) (by omega)
    have hf1n : f1 < h3.next := by
      rcases M1 with ⟨hx, _⟩ | ⟨q, hq, _, _, _, hq2, _⟩
      · simp at hx
      · cases hq; exact hq2
    have hF2n : ∀ f, F2 = some f → f < h2.next := fun f hf => by
      rcases L2.fr G2 with ⟨_, _, hx⟩ | ⟨q, hq, _, _, _, hq2, _⟩
      · rw [hx] at hf; cases hf
      · rw [hq] at hf; cases hf; exact hq2
    have M1' := M1.other n4 k4 (fun f hf hq => by cases hf; have := hF2n f1 hq; omega)
    have hF1e : ∀ f, F1 = some f → e ≤ f := fun f hf => by
      rcases L1 with ⟨_, _, hx⟩ | ⟨q, hq, _, _, hq2, _⟩
      · rw [hx] at hf; cases hf
      · rw [hq] at hf; cases hf; exact hq2
    have hF2e : ∀ f, F2 = some f → e ≤ f := fun f hf => by
      rcases L2 with ⟨_, _, hx⟩ | ⟨q, hq, _, _, hq2, _⟩
      · rw [hx] at hf; cases hf
      · rw [hq] at hf; cases hf; exact hq2
    have E34 : FrE e h2 h4 fp2 fp2 := ⟨by omega, fun t ht _ => by rw [k4 t (by omega) (fun hq => by have := hF2e t hq; omega), k3 t (by omega) (fun hq => by have := hF1e t hq; omega)], fun t ht => .inl ht⟩
    rw [loopS_succ, g102_L1]
    simp only [q0, q3, q9, cFieldAddr_ptr, Nat.zero_add, cLoad1_ptr, ld1_eq, H.cell hbx, List.getElem?_cons_zero, List.getElem?_cons_succ, ob_some, hz, asLK_slc, cLenS_eq, cBin_lss, hlt1, decide_true, cIf_eq, if_true, cIdxS_slice, idx?_nat hil, cLoadA_ptr, load_kid hkx hky hkz c0 c1 c2, e2, cExtract_eq, List.toList_toArray, q7, e3, q8, e4]
    rw [cBin_add _ _ _ (by omega) (by omega)]
    simp only [loopK_normal]
    refine ih (i + 1) f h4 _ (ins ++ [(layP kd s).1]) (outs ++ [(layP kd s).2.1]) w1 w2 (some f1) (some f2) (layP kd s).2.2 fp2 (by omega) (by omega) (by omega) ?_ C4 M1' M2 (fun f h1 h2 => by cases h1; cases h2; omega) (F.trans ((G2.toE he).trans E34)) (by omega) (fun o ho' => ?_) (by omega) (by omega) (by simp; omega) (by simp; exact hio) hR ?_ ?_ ?_ ?_ ?_ ?_
    · have HP2 := H.pat G2 HP
      exact HP2.frame (fun t ht => E34.keep t (by omega) fun hm => by have := H2.low t hm; omega) _
    · rcases List.mem_append.1 ho' with q | q
      · have := ho o q; omega
      · simp at q; subst q; omega
    all_goals simp [updL_cons, q0, q3, q6]
end Go.Amb
end

section
/- Automata being laid, the document's way: one of several, whole. -/
set_option linter.unusedVariables false
set_option linter.unusedSimpArgs false
namespace Go.Amb
open Go.Proofs

theorem kidsR_lies : ∀ (ks : List Pat) (ins outs : List Nat) (s : List NS), GoodL ks → s.length ≤ (kidsR ks ins outs s).2.2.length ∧ (kidsR ks ins outs s).1.length = ins.length + ks.length ∧
      tot (kidsR ks ins outs s).2.2 + 2 * ks.length ≤ tot s + 8 * Pat.nodesL ks
  | [], ins, outs, s, _ => by unfold kidsR; exact ⟨Nat.le_refl _, rfl, by simp [Pat.nodesL]⟩
  | k :: r, ins, outs, s, hg => by
    unfold GoodL at hg
    have hl := layP_lies k s hg.1
    have hli := hl.i
    have hlt := hl.t
    rw [kidsR, layR_P k s hg.1]
    obtain ⟨q1, q2, q3⟩ := kidsR_lies r (ins ++ [(layP k s).1]) (outs ++ [(layP k s).2.1]) (layP k s).2.2 hg.2
    simp at q2
    simp only [Pat.nodesL, List.length_cons]
    exact ⟨by omega, by omega, by omega⟩

theorem ev102 (X : Call) {p : Pat} (hS : ∀ k ∈ p.kids, Spec63 X k) (hop : p.op = 3) (n : Nat) {N Q : Nat} {h : AHeap} {a b c : Value} {rest : List Value} {pins : List (Nat × AObj)} {s : List NS} {fp : List Nat} (HP : PatAt N h p a b c) (hg : GoodP p) (hn : p.wt ≤ n + 4) (H : Ctx h N Q 110 rest pins s fp) (ht : tot s + 8 * p.nodes ≤ 1000000) :
    ∃ h' fp', Ctx h' N Q 110 rest pins (layP p s).2.2 fp' ∧ Fr h h' fp fp' ∧ evF EK X (n + 1) 102 [P0 Q 0, .agg [a, b, c].toArray] h = some (.ret (.tuple #[I (layP p s).1, I (layP p s).2.1]) h') := by
  have hwt := p.wt_eq
  obtain ⟨n, rfl⟩ : ∃ q, n = q + 1 := ⟨n - 1, by omega⟩
  have hk2 := (good_kids hg).1 (.inr hop)
  have hnp := p.nodes_eq
  have hnl := Pat.nodesL_ge p.kids
  have hwl := Pat.wtL_ge p.kids
  have hlay : layP p s = (s.length, (kidsR p.kids [] [] (newS s)).2.2.length, tiesR s.length (kidsR p.kids [] [] (newS s)).2.2.length (kidsR p.kids [] [] (newS s)).1 (kidsR p.kids [] [] (newS s)).2.1 (newS (kidsR p.kids [] [] (newS s)).2.2)) := by
    rw [← layR_P p s hg, layR_eq, if_neg (by omega), if_pos hop]
  obtain ⟨q1, q2, q3⟩ := kidsR_lies p.kids [] [] (newS s) hg.eq.2.2
  have q4 := kidsR_len p.kids [] [] (newS s) rfl
  simp only [List.length_nil, Nat.zero_add, length_newS] at q1 q2
  have tn := tot_newS s
  have H0 := H.new (.cells [a, b, c] 64 none false)
  have F0 := Fr.new h (.cells [a, b, c] 64 none false) fp
  have HP0 := H.pat F0 HP
  have hNe : N ≤ h.next := H.hn
  rw [hlay]
  generalize hR : kidsR p.kids [] [] (newS s) = R at *
  generalize hT : tiesR s.length R.2.2.length R.1 R.2.1 (newS R.2.2) = S at *
  have hb : (h.next, AObj.cells [a, b, c] 64 none false) ∈ (h.next, AObj.cells [a, b, c] 64 none false) :: pins := List.mem_cons_self
  have hfin : GL N Q 110 rest pins (h.new (.cells [a, b, c] 64 none false)).next (h.new (.cells [a, b, c] 64 none false)) fp S (.tuple #[I s.length, I R.2.2.length]) (evF EK X (n + 1 + 1) 102 [P0 Q 0, .agg [a, b, c].toArray] h) := by
    have hpe : ∀ x ∈ (h.next, AObj.cells [a, b, c] 64 none false) :: pins, x.1 < (h.new (.cells [a, b, c] 64 none false)).next := fun x hx => (H0.pin x hx).2.1
    have hne : N ≤ (h.new (.cells [a, b, c] 64 none false)).next := H0.hn
    generalize hp : (h.next, AObj.cells [a, b, c] 64 none false) :: pins = pins' at *
    rw [evF_B _ _ _ _ _ _ (by kernel_rfl), g102_eq, g102]
    obtain ⟨h1, fp1, H1, F1, e1⟩ := call_stateR X n H0 (by omega)
    simp only [st0_zero, st0_succ, cNew_eq, Value.cells, List.toList_toArray, e1]
    refine ev102_kids X hS hg n (n + 1) (by omega) hne hb hpe s.length R _ _ _ ?_ p.kids.length 0 (n + 1) h1 _ [] [] nilS nilS none none (newS s) fp1 (by omega) (by omega) (by omega) (H0.pat F1 HP0) H1 (.inl ⟨rfl, rfl, rfl⟩) (.inl ⟨rfl, rfl, rfl⟩) (fun f hf => by cases hf) (F1.toE (Nat.le_refl _)) F1.next (fun o ho => by cases ho) (by simp) (by rw [List.drop_zero]; omega) (by simp; omega) rfl hR ?_ ?_ ?_ ?_ ?_ ?_
    · intro σ' h' fp' v1 v2 F1 F2 O L1 L2 F he ho ha s0 s7 s8 s6
      obtain ⟨h2, fp2, H2, G2, e2⟩ := call_stateR X n O (by omega)
      have tn2 := tot_newS R.2.2
      have n2 := G2.next
      simp only [hBlk_same, hSeq_normal, g102_C2, s0, e2]
      refine ev102_ties X n (n + 1) s.length R.2.2.length R.1 R.2.1 q4 v1 v2 F1 F2 S _ ?_ R.1.length 0 (n + 1) h2 _ (newS R.2.2) fp2 (by omega) (by omega) (by omega) (by omega) H2 (L1.fr G2) (L2.fr G2) (F.trans (G2.toE he)) (by omega) (by simp; omega) (fun o h => by have := ho o h; simp; omega) (by omega) (by rw [List.drop_zero, List.drop_zero]; exact hT) ?_ ?_ ?_ ?_ ?_ ?_
      · intro σ' h' fp' O F s6 s12
        refine ⟨h', fp', by rw [← hp] at O; exact O.drop, F, ?_⟩
        simp [g102_C4, updL_cons, s6, s12]
      all_goals simp [updL_cons, s0, s6, s7, s8]
    all_goals simp [updL_cons]
  obtain ⟨h', fp', r1, r2, r3⟩ := hfin
  exact ⟨h', fp', r1, F0.trans r2.toFr, r3⟩
end Go.Amb
end

section
/- Automata being laid, the document's way: of every good pattern. -/
set_option linter.unusedVariables false
set_option linter.unusedSimpArgs false
namespace Go.Amb
open Go.Proofs

theorem IntsAt.eqV {N : Nat} {h : AHeap} {v : Value} {l : List Int} (H : IntsAt N h v l) : eqV v v = true := by
  rcases H with ⟨_, rfl⟩ | ⟨i, c, e, rfl, _⟩
  · rfl
  · exact eqV_S0 _ _ _ _
/-- A list of numbers put behind an empty one. -/
theorem copyI {N : Nat} {h : AHeap} {v : Value} {l : List Int} (H : IntsAt N h v l) (hN : N ≤ h.next) (hl : l.length ≤ 1000) :
    ∃ h' v' fc, (∀ K : K2, cAppend 3 1 8 (S0 h.next 0 0 0) v (h.new (.cells [] 3 none false)) K = K v' h') ∧ h.next ≤ h'.next ∧ (∀ i, i < h.next → h'.get i = h.get i) ∧ ClsRep h' v' l fc ∧ (∀ i ∈ fc, h.next ≤ i ∧ i < h'.next) ∧ fc.Nodup ∧ (∃ a n c, v' = .slice a n c) := by
  rcases H with ⟨rfl, rfl⟩ | ⟨i, c, e, rfl, h2, h3, h4, h5⟩
  · refine ⟨h.new (.cells [] 3 none false), S0 h.next 0 0 0, [h.next], fun K => ?_, by simp, fun i hi => get_new_lt _ hi, .inr ⟨h.next, none, rfl, get_new_self _ _, rfl⟩, fun i hi => by simp at hi; subst hi; simp, by simp, ⟨_, _, _, rfl⟩⟩
    have : srcOf (h.new (.cells [] 3 none false)) 1 nilS = some (0, []) := rfl
    simp [cAppend_eq, this, app_zero]
  · have hi : i < h.next := by omega
    have hg : (h.new (.cells [] 3 none false)).get i = .cells (ints l) e none true := by rw [get_new_lt _ hi]; exact h5
    simp only [cAppend_eq]
    rw [srcOf_row hg (by simp)]
    simp only [ob_some, Nat.mul_one, List.drop_zero]
    rw [List.take_of_length_le (by simp)]
    by_cases hz : l.length = 0
    · have : l = [] := List.eq_nil_of_length_eq_zero hz
      subst this
      refine ⟨h.new (.cells [] 3 none false), S0 h.next 0 0 0, [h.next], fun K => ?_, by simp, fun i hi => get_new_lt _ hi, .inr ⟨h.next, none, rfl, get_new_self _ _, rfl⟩, fun i hi => by simp at hi; subst hi; simp, by simp, ⟨_, _, _, rfl⟩⟩
      simp [app_zero]
    · have hb : (0 + l.length) * 8 ≤ AHeap.most := by simp only [AHeap.most]; omega
      refine ⟨(h.new (.cells [] 3 none false)).new (.cells (ints l) 3 (some 1) false), S0 (h.next + 1) 0 l.length l.length, [h.next + 1], fun K => ?_, ?_, fun i hi => ?_, .inr ⟨h.next + 1, some 1, rfl, ?_, rfl⟩, fun i hi => ?_, by simp, ⟨_, _, _, rfl⟩⟩
      · rw [app_full (get_new_self h _) (by simp) (by omega) hz hb (by decide) (by decide)]
        simp
      · simp
        omega
      · rw [get_new_lt _ (by simp; omega), get_new_lt _ hi]
      · exact get_new_self (h.new (.cells [] 3 none false)) _
      · simp at hi; subst hi; simp
theorem hk0 (h' : AHeap) (n : Nat) (hn : h'.get n = .cells [] 3 none false) : hkB (some ([], 3)) (S0 n 0 0 0) h' = true := by
  unfold hkB
  simp [blkOf, hn, eqL1]

theorem ev63_loop (X : Call) {p : Pat} (hS : ∀ k ∈ p.kids, Spec63 X k) (hg : GoodP p) (n lf : Nat) (hw : Pat.wtL p.kids ≤ n + 1) {N Q bx : Nat} {a b c : Value} {rest : List Value} {pins : List (Nat × AObj)} (hbx : (bx, AObj.cells [a, b, c] 64 none false) ∈ pins) (iin : Nat) (K : KS)
    (kx : ∀ σ' h' (o : Nat), σ' 10 = I iin → σ' 11 = I o → K (.exit 1) σ' h' = some (.ret (.tuple #[I iin, I o]) h')) :
    ∀ (m i f : Nat) (h : AHeap) (σ : St) (o : Nat) (s : List NS) (fp : List Nat), p.kids.length - i = m → i ≤ p.kids.length → m < f → PatAt N h p a b c → Ctx h N Q 110 rest pins s fp →
    tot s + 8 * Pat.nodesL (p.kids.drop i) ≤ 1000000 → o < s.length → σ 0 = P0 Q 0 → σ 3 = P0 bx 0 → σ 12 = I i → σ 10 = I iin → σ 11 = I o →
    ∃ h' fp', Ctx h' N Q 110 rest pins (chainP (p.kids.drop i) iin o s).2.2 fp' ∧ Fr h h' fp fp' ∧ loopS (g63_L1 (evF EK X (n + 1)) lf) f σ h K = some (.ret (.tuple #[I iin, I (chainP (p.kids.drop i) iin o s).2.1]) h') := by
  intro m
  induction m with
  | zero =>
    intro i f h σ o s fp hm hi hf HP H ht ho q0 q3 q12 q10 q11
    obtain ⟨f, rfl⟩ : ∃ q, f = q + 1 := ⟨f - 1, by omega⟩
    have hil : i = p.kids.length := by omega
    subst hil
    rw [List.drop_length]
    unfold chainP
    refine ⟨h, fp, H, Fr.refl h fp, ?_⟩
    obtain ⟨za, zc, hz, hlen⟩ := HP.kidsSlc
    rw [loopS_succ, g63_L1]
    simp only [q3, q12, cFieldAddr_ptr, Nat.zero_add, cLoad1_ptr, ld1_eq, H.cell hbx, List.getElem?_cons_zero, List.getElem?_cons_succ, ob_some, hz, asLK_slc, cLenS_eq, cBin_lss, Int.lt_irrefl, decide_false, cIf_eq, Bool.false_eq_true, if_false, loopK_exit]
    exact kx _ _ o (by simp [updL_cons, q10]) (by simp [updL_cons, q11])
  | succ m ih =>
    intro i f h σ o s fp hm hi hf HP H ht ho q0 q3 q12 q10 q11
    obtain ⟨f, rfl⟩ : ∃ q, f = q + 1 := ⟨f - 1, by omega⟩
    have hil : i < p.kids.length := by omega
    have hget : p.kids[i]? = some p.kids[i] := List.getElem?_eq_getElem hil
    have hdrop : p.kids.drop i = p.kids[i] :: p.kids.drop (i + 1) := List.drop_eq_getElem_cons hil
    generalize p.kids[i] = kd at hget hdrop
    rw [hdrop] at ht ⊢
    simp only [Pat.nodesL] at ht
    have hgk := hg.eq.2.2.at hget
    have hwk := Pat.wtL_at hget
    have hlies := layP_lies kd s hgk
    have hli := hlies.i
    have hlo := hlies.o
    have hlt := hlies.t
    obtain ⟨za, zc, hz, hlen⟩ := HP.kidsSlc
    have htop : (p.kids.length : Int) ≤ 9223372036854775807 := by unfold top at hlen; omega
    obtain ⟨j, cap, kx', ky, kz, hce, _, _, hj, HK, hkx, hky, hkz, c0, c1, c2⟩ := HP.kid hget
    rw [hz] at hce
    cases hce
    have hlt1 : ((i : Int) < (p.kids.length : Int)) := by omega
    obtain ⟨h1, fp1, H1, F1, e1⟩ := (hS kd (List.mem_of_getElem? hget)).call (n + 1) HK hgk (by omega) H (by omega)
    obtain ⟨h2, fp2, H2, F2, e2⟩ := call_freeR X n H1 (by omega) (a := o) (layP kd s).1 (by omega)
    have t2 := tot_frS (layP kd s).2.2 o (layP kd s).1
    rw [loopS_succ, g63_L1]
    simp only [q0, q3, q12, cFieldAddr_ptr, Nat.zero_add, cLoad1_ptr, ld1_eq, H.cell hbx, List.getElem?_cons_zero, List.getElem?_cons_succ, ob_some, hz, asLK_slc, cLenS_eq, cBin_lss, hlt1, decide_true, cIf_eq, if_true, cIdxS_slice, idx?_nat hil, cLoadA_ptr, load_kid hkx hky hkz c0 c1 c2, e1, cExtract_eq, List.toList_toArray, q11, e2]
    rw [cBin_add _ _ _ (by omega) (by omega)]
    simp only [loopK_normal]
    unfold chainP
    have F02 := F1.trans F2
    refine Exists.elim (ih (i + 1) f h2 _ (layP kd s).2.1 (frS (layP kd s).2.2 o (layP kd s).1) fp2 (by omega) (by omega) (by omega) (H.pat F02 HP) H2 (by omega) (by simp; omega) ?_ ?_ ?_ ?_ ?_) fun h' ⟨fp', r1, r2, r3⟩ => ⟨h', fp', r1, F02.trans r2, r3⟩
    all_goals simp [updL_cons, q0, q3, q10]

/-- One of four to six. -/
theorem ev63_three (X : Call) {p : Pat} (hS : ∀ k ∈ p.kids, Spec63 X k) (hop : p.op = 4 ∨ p.op = 5 ∨ p.op = 6) (n : Nat) {N Q bx : Nat} {h : AHeap} {b c : Value} {rest : List Value} {pins pins' : List (Nat × AObj)} {s : List NS} {fp : List Nat} (HP : PatAt N h p (I p.op) b c) (hg : GoodP p) (hn : p.wt ≤ n + 4) (H : Ctx h N Q 110 rest pins' s fp)
    (hbx : (bx, AObj.cells [I p.op, b, c] 64 none false) ∈ pins') (hdrop : ∀ {h : AHeap} {s : List NS} {fp : List Nat}, Ctx h N Q 110 rest pins' s fp → Ctx h N Q 110 rest pins s fp) (ht : tot s + 8 * p.nodes ≤ 1000000) (σ : St) (q0 : σ 0 = P0 Q 0) (q3 : σ 3 = P0 bx 0) :
    ∃ h' fp', Ctx h' N Q 110 rest pins (layP p s).2.2 fp' ∧ Fr h h' fp fp' ∧ g63_C3 (evF EK X (n + 1)) (n + 1) σ h (finS EK [.tmp 4, .tmp 5]) = some (.ret (.tuple #[I (layP p s).1, I (layP p s).2.1]) h') := by
  have hwt := p.wt_eq
  obtain ⟨ka, kc, hce, hkl⟩ := HP.kidsSlc
  subst hce
  have hk1 := (good_kids hg).2.1 hop
  have hget : p.kids[0]? = some p.kids[0] := List.getElem?_eq_getElem (by omega)
  generalize p.kids[0] = kd at hget
  have hgk := hg.eq.2.2.at hget
  have hwk := Pat.wtL_at hget
  have hnk := Pat.nodesL_at hget
  have hnp := p.nodes_eq
  have hlay : layP p s = (s.length, (layP kd (newS s)).2.2.length, tieP p.op s.length (layP kd (newS s)).1 (layP kd (newS s)).2.1 (layP kd (newS s)).2.2.length (newS (layP kd (newS s)).2.2)) := by
    rw [layP_eq, if_neg (by omega), if_neg (by omega), if_pos hop]
    match hks : p.kids, hget, hk1 with
    | [k], hget, _ =>
      simp at hget
      subst hget
      rfl
  have hlies := layP_lies kd (newS s) hgk
  have hli := hlies.i
  have hlo := hlies.o
  have hlt := hlies.t
  have tn := tot_newS s
  simp only [length_newS] at hli hlo
  rw [hlay, g63_C3]
  obtain ⟨h1, fp1, H1, F1, e1⟩ := call_stateR X n H (by omega)
  have HP1 := H.pat F1 HP
  obtain ⟨j, cap, kx, ky, kz, he, hq0, _, _, HK, hkx, hky, hkz, c0, c1, c2⟩ := HP1.kid hget
  cases he
  have hx0 : idx? 0 p.kids.length = some 0 := idx?_nat (q := 0) (by omega)
  simp only [q0, q3, e1, cFieldAddr_ptr, Nat.zero_add, cLoad1_ptr, ld1_eq, H1.cell hbx, List.getElem?_cons_zero, List.getElem?_cons_succ, ob_some, asLK_slc, cIdxS_slice, hx0, Nat.zero_mul, cLoadA_ptr, load_kid hkx hky hkz (by simpa using c0) (by simpa using c1) (by simpa using c2)]
  obtain ⟨h2, fp2, H2, F2, e2⟩ := (hS kd (List.mem_of_getElem? hget)).call (n + 1) HK hgk (by omega) H1 (by omega)
  simp only [e2, cExtract_eq, List.getElem?_cons_zero, List.getElem?_cons_succ, ob_some, List.toList_toArray]
  obtain ⟨h3, fp3, H3, F3, e3⟩ := call_stateR X n H2 (by omega)
  have tn3 := tot_newS (layP kd (newS s)).2.2
  simp only [e3]
  obtain ⟨h4, fp4, H4, F4, e4⟩ := call_freeR X n H3 (by omega) (a := s.length) (layP kd (newS s)).1 (by simp; omega)
  have t4 := tot_frS (newS (layP kd (newS s)).2.2) s.length (layP kd (newS s)).1
  simp only [e4, cFieldAddr_ptr, Nat.zero_add, cLoad1_ptr, ld1_eq, H4.cell hbx, List.getElem?_cons_zero, ob_some, asLK_int, cBin_neq]
  generalize hs4 : frS (newS (layP kd (newS s)).2.2) s.length (layP kd (newS s)).1 = s4 at *
  have l4 : s4.length = (layP kd (newS s)).2.2.length + 1 := by rw [← hs4]; simp
  have htie : tieP p.op s.length (layP kd (newS s)).1 (layP kd (newS s)).2.1 (layP kd (newS s)).2.2.length (newS (layP kd (newS s)).2.2) = frS (tie3 p.op (layP kd (newS s)).2.1 (layP kd (newS s)).1 (tie2 p.op s.length (layP kd (newS s)).2.2.length s4)) (layP kd (newS s)).2.1 (layP kd (newS s)).2.2.length := by
    unfold tieP; rw [hs4]
  rw [htie]
  generalize hI : (layP kd (newS s)).1 = ii at *
  generalize hO : (layP kd (newS s)).2.1 = oo at *
  generalize hL : (layP kd (newS s)).2.2.length = ll at *
  have F04 := F1.trans (F2.trans (F3.trans F4))
  -- the last
  have last : ∀ (s5 : List NS) (h5 : AHeap) (fp5 : List Nat) (σ : St), Ctx h5 N Q 110 rest pins' s5 fp5 → Fr h h5 fp fp5 → s5.length = s4.length → tot s5 ≤ tot s4 + 2 → σ 0 = P0 Q 0 → σ 17 = I oo → σ 18 = I ll → σ 15 = I s.length →
      ∃ h' fp', Ctx h' N Q 110 rest pins (frS s5 oo ll) fp' ∧ Fr h h' fp fp' ∧ g63_C5 (evF EK X (n + 1)) (n + 1) σ h5 (finS EK [.tmp 4, .tmp 5]) = some (.ret (.tuple #[I s.length, I ll]) h') := by
    intro s5 h5 fp5 σ H5 F5 l5 t5 q0 q17 q18 q15
    obtain ⟨h6, fp6, H6, F6, e6⟩ := call_freeR X n H5 (by omega) (a := oo) ll (by omega)
    refine ⟨h6, fp6, hdrop H6, F5.trans F6, ?_⟩
    rw [g63_C5]
    simp only [q0, q17, q18, q15, e6]
    simp [updL_cons, q15, q18]
  have next : ∀ (s5 : List NS) (h5 : AHeap) (fp5 : List Nat) (σ : St), Ctx h5 N Q 110 rest pins' s5 fp5 → Fr h h5 fp fp5 → s5.length = s4.length → tot s5 ≤ tot s4 + 1 → σ 0 = P0 Q 0 → σ 17 = I oo → σ 16 = I ii → σ 18 = I ll → σ 15 = I s.length → σ 3 = P0 bx 0 →
      ∃ h' fp', Ctx h' N Q 110 rest pins (frS (tie3 p.op oo ii s5) oo ll) fp' ∧ Fr h h' fp fp' ∧ g63_C4 (evF EK X (n + 1)) (n + 1) σ h5 (finS EK [.tmp 4, .tmp 5]) = some (.ret (.tuple #[I s.length, I ll]) h') := by
    intro s5 h5 fp5 σ H5 F5 l5 t5 q0 q17 q16 q18 q15 q3
    rw [g63_C4]
    simp only [q0, q3, q17, q16, cFieldAddr_ptr, Nat.zero_add, cLoad1_ptr, ld1_eq, H5.cell hbx, List.getElem?_cons_zero, ob_some, asLK_int, cBin_neq, cIf_eq]
    unfold tie3
    by_cases e6 : p.op = 6
    · simp only [e6, decide_true, Bool.not_true, Bool.false_eq_true, ↓reduceIte]
      exact last s5 h5 fp5 _ H5 F5 l5 (by omega) (by simp [updL_cons, q0]) (by simp [updL_cons, q17]) (by simp [updL_cons, q18]) (by simp [updL_cons, q15])
    · obtain ⟨h6, fp6, H6, F6, e6'⟩ := call_freeR X n H5 (by omega) (a := oo) ii (by omega)
      simp only [e6, decide_false, Bool.not_false, ↓reduceIte, e6']
      have t6 := tot_frS s5 oo ii
      exact last (frS s5 oo ii) h6 fp6 _ H6 (F5.trans F6) (by simp; exact l5) (by omega) (by simp [updL_cons, q0]) (by simp [updL_cons, q17]) (by simp [updL_cons, q18]) (by simp [updL_cons, q15])
  unfold tie2
  by_cases e5 : p.op = 5
  · simp only [e5, decide_true, Bool.not_true, cIf_eq, Bool.false_eq_true, ↓reduceIte]
    refine Exists.elim (next s4 h4 fp4 _ H4 F04 rfl (by omega) ?_ ?_ ?_ ?_ ?_ ?_) fun h' ⟨fp', r1, r2, r3⟩ => ⟨h', fp', by rw [e5] at r1; exact r1, r2, r3⟩
    all_goals simp [updL_cons, q0, q3]
  · simp only [e5, decide_false, Bool.not_false, cIf_eq, ↓reduceIte]
    obtain ⟨h5, fp5, H5, F5, e5'⟩ := call_freeR X n H4 (by omega) (a := s.length) ll (by omega)
    have t5 := tot_frS s4 s.length ll
    simp only [e5']
    refine Exists.elim (next (frS s4 s.length ll) h5 fp5 _ H5 (F04.trans F5) (by simp) (by omega) ?_ ?_ ?_ ?_ ?_ ?_) fun h' ⟨fp', r1, r2, r3⟩ => ⟨h', fp', r1, r2, r3⟩
    all_goals simp [updL_cons, q0, q3]

end Go.Amb
end

section
/- Automata being laid, the document's way: of every good pattern. -/
set_option linter.unusedVariables false
set_option linter.unusedSimpArgs false
namespace Go.Amb
open Go.Proofs

/-- One set of classes, laid beside and tied in. -/
theorem edge1 {h : AHeap} {N Q : Nat} {rest : List Value} {pins' : List (Nat × AObj)} {s : List NS} {fp : List Nat} {b : Value} {p : Pat} (H2 : Ctx h N Q 110 rest pins' (newS (newS s)) fp) (hb2 : IntsAt N h b p.cls) (hcl : p.cls.length ≤ 64) :
    ∃ (h3 : AHeap) (v3 : Value) (fc : List Nat) (S : Nat) (cs : List Value) (fp3 : List Nat), (∀ K : K2, cAppend 3 1 8 (S0 h.next 0 0 0) b (h.new (.cells [] 3 none false)) K = K v3 h3) ∧ (∃ a n c, v3 = .slice a n c) ∧
      (h.new (.cells [] 3 none false)).get Q = .cells (S0 S 0 (s.length + 2) (s.length + 2) :: rest) 110 none false ∧ h.get Q = .cells (S0 S 0 (s.length + 2) (s.length + 2) :: rest) 110 none false ∧
      h3.get Q = .cells (S0 S 0 (s.length + 2) (s.length + 2) :: rest) 110 none false ∧
      (h3.new (.cells [v3, I ((s.length + 1 : Nat) : Int)] 106 none false)).get Q = .cells (S0 S 0 (s.length + 2) (s.length + 2) :: rest) 110 none false ∧
      (h3.new (.cells [v3, I ((s.length + 1 : Nat) : Int)] 106 none false)).st S (s.length * 2) [S0 h3.next 0 1 1] = some ((h3.new (.cells [v3, I ((s.length + 1 : Nat) : Int)] 106 none false)).set S (.cells (cs.set (s.length * 2) (S0 h3.next 0 1 1)) 102 (some 2) false)) ∧
      Ctx ((h3.new (.cells [v3, I ((s.length + 1 : Nat) : Int)] 106 none false)).set S (.cells (cs.set (s.length * 2) (S0 h3.next 0 1 1)) 102 (some 2) false)) N Q 110 rest pins' (edS (newS (newS s)) s.length p.cls (s.length + 1)) fp3 ∧
      Fr h ((h3.new (.cells [v3, I ((s.length + 1 : Nat) : Int)] 106 none false)).set S (.cells (cs.set (s.length * 2) (S0 h3.next 0 1 1)) 102 (some 2) false)) fp fp3 := by
  obtain ⟨h3, v3, fc, k1, k2, k3, k4, k5, k6, k7⟩ := copyI hb2 H2.hn (by omega)
  have hE : EdgesRep (h3.new (.cells [v3, I ((s.length + 1 : Nat) : Int)] 106 none false)) (S0 h3.next 0 1 1) [(p.cls, ((s.length + 1 : Nat) : Int))] (h3.next :: fc) :=
    .inr ⟨p.cls, _, h3.next, v3, fc, rfl, rfl, get_new_self _ _, k4.frame fun i hi => get_new_lt _ (k5 i hi).2, rfl⟩
  have hs : (newS (newS s))[s.length]? = some ⟨[], []⟩ := by simp [newS]
  obtain ⟨S, cs, r1, r2, r3, r4, r5, r6, fp3, r7, r8⟩ := H2.rep.edge hs rfl hE (List.nodup_cons.2 ⟨fun hm => by have := (k5 _ hm).2; omega, k6⟩) (fun i hi => by
    rcases List.mem_cons.1 hi with rfl | hi
    · exact ⟨k2, by simp⟩
    · have := k5 i hi; exact ⟨this.1, by simp; omega⟩) (fun i hi => by rw [get_new_lt _ (by omega), k3 i hi]) (by simp; omega)
  have hl2 : (newS (newS s)).length = s.length + 2 := by simp
  rw [hl2] at r1 r2
  have g3Q : h3.get Q = .cells (S0 S 0 (s.length + 2) (s.length + 2) :: rest) 110 none false := by rw [k3 Q r6]; exact r1
  have g4Q : (h3.new (.cells [v3, I ((s.length + 1 : Nat) : Int)] 106 none false)).get Q = .cells (S0 S 0 (s.length + 2) (s.length + 2) :: rest) 110 none false := by rw [get_new_lt _ (by omega)]; exact g3Q
  have g4S : (h3.new (.cells [v3, I ((s.length + 1 : Nat) : Int)] 106 none false)).get S = .cells cs 102 (some 2) false := by rw [get_new_lt _ (by omega), k3 S r5]; exact r3
  have hst : (h3.new (.cells [v3, I ((s.length + 1 : Nat) : Int)] 106 none false)).st S (s.length * 2) [S0 h3.next 0 1 1] = some ((h3.new (.cells [v3, I ((s.length + 1 : Nat) : Int)] 106 none false)).set S (.cells (cs.set (s.length * 2) (S0 h3.next 0 1 1)) 102 (some 2) false)) := by
    rw [st_of g4S (by simp; omega) rfl, putL_one _ _ _ r4]
  exact ⟨h3, v3, fc, S, cs, fp3, k1, k7, by rw [get_new_lt _ r6]; exact r1, r1, g3Q, g4Q, hst, H2.step r7 r8, r8⟩

theorem spec63 (X : Call) : ∀ (m : Nat) (p : Pat), p.wt ≤ m → Spec63 X p := by
  intro m
  induction m with
  | zero => intro p h; have := p.wt_eq; omega
  | succ m ih =>
    intro p hp n N Q h a b c rest pins s fp HP hg hn H ht
    have hwt := p.wt_eq
    obtain ⟨n, rfl⟩ : ∃ q, n = q + 1 := ⟨n - 1, by omega⟩
    obtain ⟨n, rfl⟩ : ∃ q, n = q + 1 := ⟨n - 1, by omega⟩
    have hS : ∀ kd ∈ p.kids, Spec63 X kd := fun kd hk => ih kd (by
      obtain ⟨q, hq⟩ := List.mem_iff_getElem?.1 hk
      have := Pat.wtL_at hq
      omega)
    obtain ⟨ha, hb, _⟩ := HP.parts
    obtain ⟨ka, kc, hce, hkl⟩ := HP.kidsSlc
    obtain ⟨ba, bc, hbe, hbl⟩ := hb.slc
    subst ha
    have H0 := H.new (.cells [I p.op, b, c] 64 none false)
    have F0 := Fr.new h (.cells [I p.op, b, c] 64 none false) fp
    have HP0 := H.pat F0 HP
    have mb : (h.next, AObj.cells [I p.op, b, c] 64 none false) ∈ (h.next, AObj.cells [I p.op, b, c] 64 none false) :: pins := List.mem_cons_self
    have hdrop : ∀ {h1 : AHeap} {s : List NS} {fp : List Nat}, Ctx h1 N Q 110 rest ((h.next, AObj.cells [I p.op, b, c] 64 none false) :: pins) s fp → Ctx h1 N Q 110 rest pins s fp := fun x => x.drop
    have hbox : ∀ (R : Type) (f : List Value → Option R), (h.new (.cells [I p.op, b, c] 64 none false)).ldL h.next [.int .i64, .slc, .slc] 0 f = f [I p.op, b, c] := fun R f =>
      load_kid rfl ⟨_, _, _, hbe⟩ ⟨_, _, _, hce⟩ (by rw [H0.cell mb]; rfl) (by rw [H0.cell mb]; rfl) (by rw [H0.cell mb]; rfl)
    generalize hbx : h.next = bx at *
    generalize hpp : (bx, AObj.cells [I p.op, b, c] 64 none false) :: pins = pins' at *
    have hop := (good_kids hg).2.2
    have hnp := p.nodes_eq
    have t1 := tot_newS s
    have t2 := tot_newS (newS s)
    have ec : ((newS s).length : Int) = ((s.length + 1 : Nat) : Int) := by simp
    rw [evF_B _ _ _ _ _ _ (by kernel_rfl), g63_eq, g63]
    simp only [st0_zero, st0_succ, cNew_eq, Value.cells, List.toList_toArray, hbx, cFieldAddr_ptr, Nat.zero_add, cLoad1_ptr, ld1_eq, H0.cell mb, List.getElem?_cons_zero, ob_some, asLK_int, cBin_eql]
    by_cases e0 : p.op = 0
    · have hlay : layP p s = (s.length, s.length + 1, frS (newS (newS s)) s.length (s.length + 1)) := by
        rw [layP_eq, if_neg (by omega), if_neg (by omega), if_neg (by omega), if_pos e0]
      rw [hlay]
      obtain ⟨h1, fp1, H1, F1, e1⟩ := call_stateR X n H0 (by omega)
      obtain ⟨h2, fp2, H2, F2, e2⟩ := call_stateR X n H1 (by omega)
      obtain ⟨h3, fp3, H3, F3, e3⟩ := call_freeR X n H2 (by omega) (a := s.length) (s.length + 1) (by simp; omega)
      simp only [decide_eq_true e0, cIf_eq, if_true, e1, e2, ec, e3]
      refine ⟨h3, fp3, hdrop H3, F0.trans (F1.trans (F2.trans F3)), ?_⟩
      simp [updL_cons]
    · simp only [decide_eq_false e0, cIf_eq, Bool.false_eq_true, if_false]
      by_cases e1' : p.op = 1
      · have hlay : layP p s = (s.length, s.length + 1, edS (newS (newS s)) s.length p.cls (s.length + 1)) := by
          rw [layP_eq, if_neg (by omega), if_neg (by omega), if_neg (by omega), if_neg e0]
        rw [hlay]
        obtain ⟨h1, fp1, H1, F1, e1⟩ := call_stateR X n H0 (by omega)
        obtain ⟨h2, fp2, H2, F2, e2⟩ := call_stateR X n H1 (by omega)
        have hcl := rises_length p.cls none hg.eq.2.1 trivial
        simp only at hcl
        have F012 := F0.trans (F1.trans F2)
        have hb2 := (H.pat F012 HP).parts.2.1
        obtain ⟨h3, v3, fc, S, cs, fp3, k1, ⟨va, vn, vc, hv⟩, g2, r1, g3, g4, hst, C3, F3⟩ := edge1 H2 hb2 (by omega)
        have hx : idx? (s.length : Int) (s.length + 2) = some s.length := idx?_nat (by omega)
        subst hbe
        have hbb := hb.eqV
        have mb2 : (bx, AObj.cells [I p.op, .slice ba p.cls.length bc, c] 64 none false) ∈ (h2.next, AObj.cells [] 3 none false) :: pins' := List.mem_cons_of_mem _ mb
        have C2 := H2.new (.cells [] 3 none false)
        refine ⟨_, fp3, hdrop C3, F012.trans F3, ?_⟩
        simp only [decide_eq_true e1', cIf_eq, if_true, e1, e2, ec, cNilCheck_ptr, rety_eq, dr_ret, cFieldAddr_ptr, Nat.zero_add, cLoad1_ptr, ld1_eq, cell?_of r1, cell?_of g2, List.getElem?_cons_zero, List.getElem?_cons_succ, ob_some, asLK_slc, H2.cell mb, C2.cell mb2, cBuildS_eq, fillP_nil, hk_eq (hk0 _ _ (get_new_self h2 _)), rk_ret (eqV_int _), rk_ret (eqV_ptr _ _), rk_ret (eqV_S0 _ _ _ _), rk_ret hbb]
        simp only [k1]
        simp only [hv, rety_eq, dr_ret, cNilCheck_ptr, cFieldAddr_ptr, Nat.zero_add, cLoad1_ptr, ld1_eq, cell?_of g3, List.getElem?_cons_zero, ob_some, asLK_slc, rk_ret (eqV_int _), rk_ret (eqV_ptr _ _), rk_ret (eqV_S0 _ _ _ _), cBuild_eq, fillE ⟨va, vn, vc, rfl⟩, cBuildS_eq, fillE2]
        rw [← hv]
        simp only [cell?_of g4, List.getElem?_cons_zero, ob_some, asLK_slc, rk_ret (eqV_int _), rk_ret (eqV_ptr _ _), rk_ret (eqV_S0 _ _ _ _), cNilCheck_ptr, cLoad1_ptr, ld1_eq, rety_eq, cFieldAddr_ptr, Nat.zero_add, dr_ret, cIdxS_slice, hx, Nat.add_zero, cStore_ptr, Value.cells, List.length_cons, List.length_nil, hst]
        simp [updL_cons]
      · simp only [decide_eq_false e1', cIf_eq, Bool.false_eq_true, if_false]
        by_cases e2 : p.op = 2
        · have hk2 := (good_kids hg).1 (.inl e2)
          have hget : p.kids[0]? = some p.kids[0] := List.getElem?_eq_getElem (by omega)
          have hdr : p.kids = p.kids[0] :: p.kids.drop 1 := by
            have := List.drop_eq_getElem_cons (l := p.kids) (i := 0) (by omega)
            simpa using this
          generalize p.kids[0] = kd at hget hdr
          have hgk := hg.eq.2.2.at hget
          have hwk := Pat.wtL_at hget
          have hnl : Pat.nodesL p.kids = kd.nodes + Pat.nodesL (p.kids.drop 1) := by
            have := congrArg Pat.nodesL hdr
            simpa only [Pat.nodesL] using this
          have hlay : layP p s = chainP (p.kids.drop 1) (layP kd s).1 (layP kd s).2.1 (layP kd s).2.2 := by
            rw [layP_eq, if_pos e2]
            have : headP p.kids s = headP (kd :: p.kids.drop 1) s := by rw [← hdr]
            rw [this]
            simp only [headP]
          have hlies := layP_lies kd s hgk
          have hli := hlies.i
          have hlo := hlies.o
          have hlt := hlies.t
          have hfst : (layP p s).1 = (layP kd s).1 := by
            rw [hlay]
            have : ∀ (ks : List Pat) (i o : Nat) (s : List NS), (chainP ks i o s).1 = i := by
              intro ks
              induction ks with
              | nil => intro i o s; unfold chainP; rfl
              | cons k r ih => intro i o s; unfold chainP; exact ih _ _ _
            exact this _ _ _ _
          rw [hfst, hlay]
          have hwl := Pat.wtL_ge p.kids
          obtain ⟨j, cap, kx, ky, kz, hje, hq0, _, _, HK, hkx, hky, hkz, c0, c1, c2⟩ := HP0.kid hget
          subst hje
          have hx0 : idx? 0 p.kids.length = some 0 := idx?_nat (q := 0) (by omega)
          obtain ⟨h1, fp1, H1, F1, e1⟩ := (hS kd (List.mem_of_getElem? hget)).call (n + 1) HK hgk (by omega) H0 (by omega)
          simp only [decide_eq_true e2, cIf_eq, if_true, List.getElem?_cons_succ, List.getElem?_cons_zero, asLK_slc, cIdxS_slice, hx0, Nat.zero_mul, Nat.zero_add, ob_some, cLoadA_ptr, load_kid hkx hky hkz (by simpa using c0) (by simpa using c1) (by simpa using c2), e1, cExtract_eq, List.toList_toArray]
          refine exF (ev63_loop X hS hg n (n + 1) (by omega) mb (layP kd s).1 _ ?_ (p.kids.length - 1) 1 (n + 1) h1 _ (layP kd s).2.1 (layP kd s).2.2 fp1 (by omega) (by omega) (by omega) (H0.pat F1 HP0) H1 (by omega) hlo.2 ?_ ?_ ?_ ?_ ?_) fun h' fp' r1 r2 => ⟨hdrop r1, F0.trans (F1.trans r2)⟩
          · intro σ' h' o s10 s11
            simp [hBlk_same, hSeq_normal, g63_C2, updL_cons, s10, s11]
          all_goals simp [updL_cons]
        · simp only [decide_eq_false e2, cIf_eq, Bool.false_eq_true, if_false]
          by_cases e3 : p.op = 3
          · obtain ⟨h1, fp1, r1, r2, r3⟩ := ev102 X hS e3 n HP0 hg (by omega) H0 ht
            simp only [decide_eq_true e3, cIf_eq, if_true, cLoadA_ptr, hbox]
            rw [cCall_ret r3]
            refine ⟨h1, fp1, hdrop r1, F0.trans r2, ?_⟩
            simp [updL_cons]
          · simp only [decide_eq_false e3, cIf_eq, Bool.false_eq_true, if_false]
            refine exF (ev63_three X hS (by omega) n HP0 hg (by omega) H0 mb hdrop ht _ ?_ ?_) fun h' fp' r1 r2 => ⟨r1, F0.trans r2⟩
            all_goals simp [updL_cons]
end Go.Amb
end
