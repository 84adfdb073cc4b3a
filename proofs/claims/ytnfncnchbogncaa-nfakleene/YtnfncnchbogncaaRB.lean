/- Part of the proof by the abstract machine: no claim of its own. -/
import Derived.Test.YtnfncnchbogncaaRA
set_option linter.unusedSimpArgs false
set_option linter.unusedVariables false
set_option linter.unnecessarySimpa false
set_option linter.unusedSectionVars false
section
/- What is laid of a pattern. -/
set_option linter.unusedVariables false
namespace Go.Amb

def newS (s : List NS) : List NS := s ++ [⟨[], []⟩]
def frS (s : List NS) (a t : Nat) : List NS := match s[a]? with
  | some st => setFree s a (st.free ++ [(t : Int)])
  | none => s
def edS (s : List NS) (a : Nat) (cs : List Int) (t : Nat) : List NS := setEdges s a [(cs, (t : Int))]
def outsP (b : Nat) : List Nat → List NS → List NS
  | [], s => s
  | o :: r, s => outsP b r (frS s o b)
/-- What three of the operators lay behind their kid. -/
def tie2 (op : Int) (a b : Nat) (s : List NS) : List NS := if op = 5 then s else frS s a b
def tie3 (op : Int) (o i : Nat) (s : List NS) : List NS := if op = 6 then s else frS s o i
def tieP (op : Int) (a i o b : Nat) (s : List NS) : List NS := frS (tie3 op o i (tie2 op a b (frS s a i))) o b
mutual
def layP : Pat → List NS → Nat × Nat × List NS
  | .mk op cs ks, s =>
    if op = 2 then headP ks s
    else if op = 3 then
      let x := kidsP s.length ks [] (newS s)
      (s.length, x.2.length, outsP x.2.length x.1 (newS x.2))
    else if op = 4 ∨ op = 5 ∨ op = 6 then
      let x := firstP ks (newS s)
      (s.length, x.2.2.length, tieP op s.length x.1 x.2.1 x.2.2.length (newS x.2.2))
    else (s.length, s.length + 1, if op = 0 then frS (newS (newS s)) s.length (s.length + 1) else edS (newS (newS s)) s.length cs (s.length + 1))
def headP : List Pat → List NS → Nat × Nat × List NS
  | [], s => (0, 0, s)
  | k :: r, s => chainP r (layP k s).1 (layP k s).2.1 (layP k s).2.2
def firstP : List Pat → List NS → Nat × Nat × List NS
  | [], s => (0, 0, s)
  | k :: _, s => layP k s
def chainP : List Pat → Nat → Nat → List NS → Nat × Nat × List NS
  | [], i, o, s => (i, o, s)
  | k :: r, i, o, s => chainP r i (layP k s).2.1 (frS (layP k s).2.2 o (layP k s).1)
def kidsP (a : Nat) : List Pat → List Nat → List NS → List Nat × List NS
  | [], outs, s => (outs, s)
  | k :: r, outs, s => kidsP a r (outs ++ [(layP k s).2.1]) (frS (layP k s).2.2 a (layP k s).1)
end

theorem layP_eq (p : Pat) (s : List NS) : layP p s = if p.op = 2 then headP p.kids s
    else if p.op = 3 then (s.length, (kidsP s.length p.kids [] (newS s)).2.length, outsP (kidsP s.length p.kids [] (newS s)).2.length (kidsP s.length p.kids [] (newS s)).1 (newS (kidsP s.length p.kids [] (newS s)).2))
    else if p.op = 4 ∨ p.op = 5 ∨ p.op = 6 then (s.length, (firstP p.kids (newS s)).2.2.length, tieP p.op s.length (firstP p.kids (newS s)).1 (firstP p.kids (newS s)).2.1 (firstP p.kids (newS s)).2.2.length (newS (firstP p.kids (newS s)).2.2))
    else (s.length, s.length + 1, if p.op = 0 then frS (newS (newS s)) s.length (s.length + 1) else edS (newS (newS s)) s.length p.cls (s.length + 1)) := by
  cases p with
  | mk op cs ks => rw [layP]; rfl

/-! ### How much there is -/
def totF : List NS → Nat
  | [] => 0
  | st :: r => st.free.length + totF r
def tot (s : List NS) : Nat := s.length + totF s
theorem totF_append (a b : List NS) : totF (a ++ b) = totF a + totF b := by
  induction a with
  | nil => simp [totF]
  | cons x a ih => simp [totF, ih]; omega
theorem totF_setFree (l : List Int) : ∀ (s : List NS) (a : Nat) (st : NS), s[a]? = some st → totF (setFree s a l) + st.free.length = totF s + l.length := by
  intro s
  induction s with
  | nil => intro a st e; simp at e
  | cons x s ih =>
    intro a st e
    cases a with
    | zero => simp at e; subst e; simp [setFree, totF]; omega
    | succ a => simp at e; have := ih a st e; simp [setFree, totF]; omega
theorem totF_setEdges (l : List (List Int × Int)) : ∀ (s : List NS) (a : Nat), totF (setEdges s a l) = totF s := by
  intro s
  induction s with
  | nil => intro a; rfl
  | cons x s ih => intro a; cases a with | zero => rfl | succ a => simp [setEdges, totF, ih a]
theorem totF_at : ∀ {s : List NS} {a : Nat} {st : NS}, s[a]? = some st → st.free.length ≤ totF s := by
  intro s
  induction s with
  | nil => intro a st e; simp at e
  | cons x s ih =>
    intro a st e
    simp only [totF]
    cases a with
    | zero => simp at e; subst e; omega
    | succ a => simp at e; have := ih e; omega
@[simp] theorem length_newS (s : List NS) : (newS s).length = s.length + 1 := by simp [newS]
theorem tot_newS (s : List NS) : tot (newS s) = tot s + 1 := by simp [tot, newS, totF_append, totF]; omega
@[simp] theorem length_frS (s : List NS) (a t : Nat) : (frS s a t).length = s.length := by
  unfold frS
  split
  · exact length_setFree _ _ _
  · rfl
theorem tot_frS (s : List NS) (a t : Nat) : tot (frS s a t) ≤ tot s + 1 := by
  unfold frS
  split
  · rename_i st e
    have := totF_setFree (st.free ++ [(t : Int)]) s a st e
    simp only [tot, length_setFree]
    simp at this
    omega
  · omega
@[simp] theorem length_edS (s : List NS) (a : Nat) (cs : List Int) (t : Nat) : (edS s a cs t).length = s.length := length_setEdges _ _ _
theorem tot_edS (s : List NS) (a : Nat) (cs : List Int) (t : Nat) : tot (edS s a cs t) = tot s := by simp [tot, edS, totF_setEdges, length_setEdges]
@[simp] theorem length_outsP (b : Nat) : ∀ (l : List Nat) (s : List NS), (outsP b l s).length = s.length := by
  intro l
  induction l with
  | nil => intro s; rfl
  | cons o l ih => intro s; simp [outsP, ih]
theorem tot_outsP (b : Nat) : ∀ (l : List Nat) (s : List NS), tot (outsP b l s) ≤ tot s + l.length := by
  intro l
  induction l with
  | nil => intro s; simp [outsP]
  | cons o l ih => intro s; have := ih (frS s o b); have := tot_frS s o b; simp [outsP]; omega
@[simp] theorem length_tie2 (op : Int) (a b : Nat) (s : List NS) : (tie2 op a b s).length = s.length := by unfold tie2; split <;> simp
@[simp] theorem length_tie3 (op : Int) (a b : Nat) (s : List NS) : (tie3 op a b s).length = s.length := by unfold tie3; split <;> simp
theorem tot_tie2 (op : Int) (a b : Nat) (s : List NS) : tot (tie2 op a b s) ≤ tot s + 1 := by unfold tie2; split; omega; exact tot_frS _ _ _
theorem tot_tie3 (op : Int) (a b : Nat) (s : List NS) : tot (tie3 op a b s) ≤ tot s + 1 := by unfold tie3; split; omega; exact tot_frS _ _ _
@[simp] theorem length_tieP (op : Int) (a i o b : Nat) (s : List NS) : (tieP op a i o b s).length = s.length := by simp [tieP]
theorem tot_tieP (op : Int) (a i o b : Nat) (s : List NS) : tot (tieP op a i o b s) ≤ tot s + 4 := by
  unfold tieP
  have h1 := tot_frS s a i
  have h2 := tot_tie2 op a b (frS s a i)
  have h3 := tot_tie3 op o i (tie2 op a b (frS s a i))
  have h4 := tot_frS (tie3 op o i (tie2 op a b (frS s a i))) o b
  omega

/-! ### Good patterns -/
mutual
def GoodP : Pat → Prop
  | .mk op cs ks => formOk op ks.length cs.length = true ∧ risesGo 64 none cs = true ∧ GoodL ks
def GoodL : List Pat → Prop
  | [] => True
  | p :: ps => GoodP p ∧ GoodL ps
end
theorem GoodP.eq {p : Pat} (h : GoodP p) : formOk p.op p.kids.length p.cls.length = true ∧ risesGo 64 none p.cls = true ∧ GoodL p.kids := by cases p; unfold GoodP at h; exact h
theorem GoodL.at : ∀ {ps : List Pat} {q : Nat} {p : Pat}, GoodL ps → ps[q]? = some p → GoodP p := by
  intro ps
  induction ps with
  | nil => intro q p _ e; simp at e
  | cons p0 ps ih =>
    intro q p h e
    unfold GoodL at h
    cases q with
    | zero => simp at e; subst e; exact h.1
    | succ q => simp at e; exact ih h.2 e
theorem nodeF_zero {op : Int} {nk : Nat} {cs : List Int} (h : nodeF 64 op nk cs = 0) : formOk op nk cs.length = true ∧ risesGo 64 none cs = true := by
  unfold nodeF at h
  split at h
  · split at h
    · exact ⟨‹_›, ‹_›⟩
    · cases h
  · cases h
mutual
theorem check_good : ∀ (p : Pat) {n : Nat}, (checkF 64 p n).1 = 0 → GoodP p ∧ (checkF 64 p n).2 = n + p.nodes ∧ n + p.nodes ≤ 2048
  | .mk op cs ks, n, h => by
    rw [checkF_eq] at h ⊢
    by_cases hn : 2048 ≤ n
    · rw [if_pos hn] at h; cases h
    · rw [if_neg hn] at h ⊢
      simp only [Pat.kids, Pat.op, Pat.cls] at h ⊢
      have := kids_good ks h (by omega)
      obtain ⟨h1, h2, h3, h4⟩ := this
      obtain ⟨f1, f2⟩ := nodeF_zero h1
      refine ⟨?_, ?_, ?_⟩
      · unfold GoodP; exact ⟨f1, f2, h2⟩
      · rw [h3, Pat.nodes_eq]; simp only [Pat.kids]; omega
      · rw [Pat.nodes_eq]; simp only [Pat.kids]; omega
theorem kids_good : ∀ (ks : List Pat) {e : Int} {n : Nat}, (kidsF 64 ks e n).1 = 0 → n ≤ 2048 → e = 0 ∧ GoodL ks ∧ (kidsF 64 ks e n).2 = n + Pat.nodesL ks ∧ n + Pat.nodesL ks ≤ 2048
  | [], e, n, h, hn => by
    simp only [kidsF] at h ⊢
    exact ⟨h, by unfold GoodL; trivial, by simp [Pat.nodesL], by simp [Pat.nodesL]; exact hn⟩
  | k :: ks, e, n, h, hn => by
    simp only [kidsF] at h ⊢
    by_cases he : e = 0
    · rw [if_pos he] at h ⊢
      have hle : (checkF 64 k n).2 ≤ 2048 ∨ (checkF 64 k n).1 = 0 ∨ True := .inr (.inr trivial)
      by_cases hc : (checkF 64 k n).1 = 0
      · obtain ⟨g1, g2, g3⟩ := check_good k hc
        obtain ⟨k1, k2, k3, k4⟩ := kids_good ks h (by omega)
        refine ⟨he, by unfold GoodL; exact ⟨g1, k2⟩, ?_, ?_⟩
        · rw [k3, g2]; simp only [Pat.nodesL]; omega
        · rw [g2] at k4; simp only [Pat.nodesL]; omega
      · exfalso
        have : ∀ (ks : List Pat) (e : Int) (n : Nat), e ≠ 0 → (kidsF 64 ks e n).1 ≠ 0 := by
          intro ks
          cases ks with
          | nil => intro e n h; simpa [kidsF] using h
          | cons k ks => intro e n h; simp only [kidsF, if_neg h]; exact h
        exact this ks _ _ hc h
    · rw [if_neg he] at h
      exact absurd h he
end
/-! ### Where what is laid lies -/
structure Lies (s : List NS) (x : Nat × Nat × List NS) (p : Nat) : Prop where
  i : s.length ≤ x.1 ∧ x.1 < x.2.2.length
  o : s.length ≤ x.2.1 ∧ x.2.1 < x.2.2.length
  t : tot x.2.2 + 2 ≤ tot s + 8 * p
theorem Lies.le {s : List NS} {x : Nat × Nat × List NS} {p : Nat} (h : Lies s x p) : s.length < x.2.2.length := by have := h.i; omega
theorem good_kids {p : Pat} (h : GoodP p) : (p.op = 2 ∨ p.op = 3 → 2 ≤ p.kids.length) ∧ (p.op = 4 ∨ p.op = 5 ∨ p.op = 6 → p.kids.length = 1) ∧ (p.op = 0 ∨ p.op = 1 ∨ p.op = 2 ∨ p.op = 3 ∨ p.op = 4 ∨ p.op = 5 ∨ p.op = 6) := by
  have hf := h.eq.1
  unfold formOk at hf
  rw [Bool.and_eq_true] at hf
  have hf := hf.1
  by_cases h0 : p.op = 0 ∨ p.op = 1
  · exact ⟨fun _ => by omega, fun _ => by omega, by omega⟩
  · rw [if_neg h0] at hf
    by_cases h2 : p.op = 2 ∨ p.op = 3
    · rw [if_pos h2] at hf
      exact ⟨fun _ => by simpa using hf, fun _ => by omega, by omega⟩
    · rw [if_neg h2] at hf
      by_cases h4 : p.op = 4 ∨ p.op = 5 ∨ p.op = 6
      · rw [if_pos h4] at hf
        exact ⟨fun _ => by omega, fun _ => by simpa using hf, by omega⟩
      · rw [if_neg h4] at hf
        cases hf
mutual
theorem layP_lies : ∀ (p : Pat) (s : List NS), GoodP p → Lies s (layP p s) p.nodes
  | .mk op cs ks, s, h => by
    obtain ⟨hk2, hk1, hop⟩ := good_kids h
    have hg := h.eq.2.2
    simp only [Pat.op, Pat.kids] at hk2 hk1 hop hg
    rw [Pat.nodes_eq]
    simp only [Pat.kids]
    unfold layP
    by_cases h2 : op = 2
    · rw [if_pos h2]
      have := hk2 (.inl h2)
      match ks, this, hg with
      | k :: r, _, hg =>
        unfold GoodL at hg
        have hl := layP_lies k s hg.1
        simp only [headP, Pat.nodesL]
        have hi := hl.i
        have ho := hl.o
        have ht := hl.t
        obtain ⟨q1, q2, q3, q4⟩ := chainP_lies r (layP k s).1 (layP k s).2.1 (layP k s).2.2 hg.2 hi.2 ho.2
        exact ⟨⟨by rw [q1]; exact hi.1, by rw [q1]; omega⟩, ⟨by omega, q3⟩, by omega⟩
    · rw [if_neg h2]
      by_cases h3 : op = 3
      · rw [if_pos h3]
        obtain ⟨q1, q2, q3, q4⟩ := kidsP_lies s.length ks [] (newS s) hg
        have := tot_outsP (kidsP s.length ks [] (newS s)).2.length (kidsP s.length ks [] (newS s)).1 (newS (kidsP s.length ks [] (newS s)).2)
        have hn := tot_newS s
        have hn2 := tot_newS (kidsP s.length ks [] (newS s)).2
        have hnl := Pat.nodesL_ge ks
        simp at q1 q2
        exact ⟨⟨Nat.le_refl _, by simp; omega⟩, ⟨by simp; omega, by simp⟩, by simp only; omega⟩
      · rw [if_neg h3]
        by_cases h4 : op = 4 ∨ op = 5 ∨ op = 6
        · rw [if_pos h4]
          have := hk1 h4
          match ks, this, hg with
          | [k], _, hg =>
            unfold GoodL at hg
            have hl := layP_lies k (newS s) hg.1
            have hi := hl.i
            have ho := hl.o
            have ht := hl.t
            have hn := tot_newS s
            have hn2 := tot_newS (layP k (newS s)).2.2
            simp only [firstP, Pat.nodesL]
            have := tot_tieP op s.length (layP k (newS s)).1 (layP k (newS s)).2.1 (layP k (newS s)).2.2.length (newS (layP k (newS s)).2.2)
            simp at hi
            exact ⟨⟨Nat.le_refl _, by simp; omega⟩, ⟨by simp; omega, by simp⟩, by simp only; omega⟩
        · rw [if_neg h4]
          have hn := tot_newS s
          have hn2 := tot_newS (newS s)
          have a1 := tot_frS (newS (newS s)) s.length (s.length + 1)
          have a2 := tot_edS (newS (newS s)) s.length cs (s.length + 1)
          have hp : 0 ≤ Pat.nodesL ks := Nat.zero_le _
          by_cases h0 : op = 0 <;> simp only [h0, if_true, if_false] <;> exact ⟨⟨Nat.le_refl _, by simp; omega⟩, ⟨by simp, by simp⟩, by simp only; omega⟩
theorem chainP_lies : ∀ (ks : List Pat) (i o : Nat) (s : List NS), GoodL ks → i < s.length → o < s.length → (chainP ks i o s).1 = i ∧ s.length ≤ (chainP ks i o s).2.2.length ∧
      ((chainP ks i o s).2.1 < (chainP ks i o s).2.2.length) ∧ (tot (chainP ks i o s).2.2 ≤ tot s + 8 * Pat.nodesL ks ∧ (o ≤ (chainP ks i o s).2.1))
  | [], i, o, s, _, hi, ho => by unfold chainP; exact ⟨rfl, Nat.le_refl _, ho, by simp [Pat.nodesL], Nat.le_refl _⟩
  | k :: r, i, o, s, hg, hi, ho => by
    unfold GoodL at hg
    have hl := layP_lies k s hg.1
    have hli := hl.i
    have hlo := hl.o
    have hlt := hl.t
    have hf := tot_frS (layP k s).2.2 o (layP k s).1
    obtain ⟨q1, q2, q3, q4, q5⟩ := chainP_lies r i (layP k s).2.1 (frS (layP k s).2.2 o (layP k s).1) hg.2 (by simp; omega) (by simp; omega)
    simp only [chainP, Pat.nodesL]
    simp at q2
    have := k.nodes_pos
    exact ⟨q1, by omega, q3, by omega, by omega⟩
theorem kidsP_lies (a : Nat) : ∀ (ks : List Pat) (l : List Nat) (s : List NS), GoodL ks → s.length ≤ (kidsP a ks l s).2.length ∧ (kidsP a ks l s).1.length = l.length + ks.length ∧
      tot (kidsP a ks l s).2 + ks.length ≤ tot s + 8 * Pat.nodesL ks ∧ True
  | [], l, s, _ => by unfold kidsP; exact ⟨Nat.le_refl _, rfl, by simp [Pat.nodesL], trivial⟩
  | k :: r, l, s, hg => by
    unfold GoodL at hg
    have hl := layP_lies k s hg.1
    have hli := hl.i
    have hlt := hl.t
    have hf := tot_frS (layP k s).2.2 a (layP k s).1
    obtain ⟨q1, q2, q3, _⟩ := kidsP_lies a r (l ++ [(layP k s).2.1]) (frS (layP k s).2.2 a (layP k s).1) hg.2
    simp only [kidsP, Pat.nodesL]
    simp at q1 q2
    have := k.nodes_pos
    refine ⟨by omega, by simp; omega, by simp; omega, trivial⟩
end
end Go.Amb
end

section
/- Automata being laid: what stays as it is meanwhile. -/
set_option linter.unusedVariables false
set_option linter.unusedSimpArgs false
namespace Go.Amb
open Go.Proofs

structure Ctx (h : AHeap) (N Q : Nat) (T : TypeId) (rest : List Value) (pins : List (Nat × AObj)) (s : List NS) (fp : List Nat) : Prop where
  rep : LayRep h Q T rest s fp
  low : ∀ i ∈ fp, N ≤ i
  hn : N ≤ h.next
  pin : ∀ x ∈ pins, h.get x.1 = x.2 ∧ x.1 < h.next ∧ x.1 ∉ fp
theorem Ctx.step {h h' : AHeap} {N Q : Nat} {T : TypeId} {rest : List Value} {pins : List (Nat × AObj)} {s s' : List NS} {fp fp' : List Nat} (H : Ctx h N Q T rest pins s fp) (R : LayRep h' Q T rest s' fp') (F : Fr h h' fp fp') : Ctx h' N Q T rest pins s' fp' := by
  refine ⟨R, fun i hi => ?_, by have := H.hn; have := F.next; omega, fun x hx => ?_⟩
  · rcases F.sub i hi with q | q
    · exact H.low i q
    · have := H.hn; omega
  · obtain ⟨a, b, c⟩ := H.pin x hx
    refine ⟨by rw [F.keep _ b c]; exact a, by have := F.next; omega, fun hm => ?_⟩
    rcases F.sub _ hm with q | q
    · exact c q
    · omega
theorem Ctx.new {h : AHeap} {N Q : Nat} {T : TypeId} {rest : List Value} {pins : List (Nat × AObj)} {s : List NS} {fp : List Nat} (H : Ctx h N Q T rest pins s fp) (o : AObj) : Ctx (h.new o) N Q T rest ((h.next, o) :: pins) s fp := by
  have H' := H.step (H.rep.new o) (Fr.new h o fp)
  refine ⟨H'.rep, H'.low, H'.hn, fun x hx => ?_⟩
  rcases List.mem_cons.1 hx with rfl | hx
  · exact ⟨get_new_self h o, by simp, fun hm => by have := H.rep.lt _ hm; simp at this⟩
  · exact H'.pin x hx
theorem Ctx.drop {h : AHeap} {N Q : Nat} {T : TypeId} {rest : List Value} {x : Nat × AObj} {pins : List (Nat × AObj)} {s : List NS} {fp : List Nat} (H : Ctx h N Q T rest (x :: pins) s fp) : Ctx h N Q T rest pins s fp :=
  ⟨H.rep, H.low, H.hn, fun y hy => H.pin y (List.mem_cons_of_mem _ hy)⟩
/-- A box beside, turned. -/
theorem Ctx.turn {h : AHeap} {N Q : Nat} {T : TypeId} {rest : List Value} {b : Nat} {o o' : AObj} {pins : List (Nat × AObj)} {s : List NS} {fp : List Nat} (H : Ctx h N Q T rest ((b, o) :: pins) s fp) (hne : ∀ x ∈ pins, x.1 ≠ b) : Ctx (h.set b o') N Q T rest ((b, o') :: pins) s fp := by
  obtain ⟨p1, p2, p3⟩ := H.pin _ List.mem_cons_self
  refine ⟨H.rep.frame (fun i hi => AHeap.get_set_ne _ _ (fun e => p3 (by rw [← e]; exact hi))) (Nat.le_refl _), H.low, H.hn, fun x hx => ?_⟩
  rcases List.mem_cons.1 hx with rfl | hx
  · exact ⟨AHeap.get_set_same _ _ _, p2, p3⟩
  · obtain ⟨a, b', c⟩ := H.pin x (List.mem_cons_of_mem _ hx)
    exact ⟨by rw [AHeap.get_set_ne _ _ (hne x hx)]; exact a, b', c⟩
theorem Ctx.cell {h : AHeap} {N Q : Nat} {T : TypeId} {rest : List Value} {pins : List (Nat × AObj)} {s : List NS} {fp : List Nat} (H : Ctx h N Q T rest pins s fp) {b : Nat} {vs : List Value} {e : TypeId} {opn : Option Nat} {ro : Bool}
    (hx : (b, AObj.cells vs e opn ro) ∈ pins) (o : Nat) : h.cell? b o = vs[o]? := cell?_of (H.pin _ hx).1
theorem Ctx.pat {h h' : AHeap} {N Q : Nat} {T : TypeId} {rest : List Value} {pins : List (Nat × AObj)} {s : List NS} {fp fp' : List Nat} (H : Ctx h N Q T rest pins s fp) (F : Fr h h' fp fp') {p : Pat} {a b c : Value} (HP : PatAt N h p a b c) : PatAt N h' p a b c :=
  HP.frame (fun i hi => F.keep i (by have := H.hn; omega) fun hm => by have := H.low i hm; omega) _

/-! ### The program's closures -/
structure Bx where
  b6 : Nat
  b7 : Nat
  b8 : Nat
  b9 : Nat
  b10 : Nat
  b11 : Nat
abbrev F56 (Q : Nat) : Value := .func (.func 56) #[] #[P0 Q 0]
abbrev F57 (Q : Nat) : Value := .func (.func 57) #[] #[P0 Q 0]
abbrev F58 (B : Bx) : Value := .func (.func 58) #[] #[P0 B.b6 0, P0 B.b8 0, P0 B.b7 0]
abbrev F59 (B : Bx) : Value := .func (.func 59) #[] #[P0 B.b6 0, P0 B.b8 0, P0 B.b7 0]
abbrev F60 (B : Bx) : Value := .func (.func 60) #[] #[P0 B.b8 0, P0 B.b7 0]
abbrev F61 (B : Bx) (Q : Nat) : Value := .func (.func 61) #[] #[P0 B.b11 0, P0 B.b10 0, P0 B.b9 0, P0 B.b6 0, P0 B.b7 0, P0 Q 0]
def clos (B : Bx) (Q : Nat) : List (Nat × AObj) := [(B.b6, .cells [F56 Q] 58 none false), (B.b7, .cells [F57 Q] 103 none false), (B.b8, .cells [F61 B Q] 104 none false), (B.b9, .cells [F58 B] 104 none false), (B.b10, .cells [F59 B] 104 none false), (B.b11, .cells [F60 B] 104 none false)]

theorem call_state (X : Call) (n : Nat) {h : AHeap} {N Q : Nat} {rest : List Value} {pins : List (Nat × AObj)} {s : List NS} {fp : List Nat} (H : Ctx h N Q 67 rest pins s fp) (ht : tot s ≤ 1000000) :
    ∃ h' fp', Ctx h' N Q 67 rest pins (newS s) fp' ∧ Fr h h' fp fp' ∧ ∀ (K kp : K2), cCallV EK (evF EK X (n + 1)) (F56 Q) [] h K kp = K (I s.length) h' := by
  obtain ⟨h', fp', e, r, f⟩ := ev56 X n H.rep (by unfold tot at ht; simp only [AHeap.most]; omega)
  refine ⟨h', fp', H.step r f, f, fun K kp => ?_⟩
  simp only [cCallV_func, c56, List.nil_append]
  rw [cCall_ret e]
  simp only [asRetL_one, asTIL_one, asLK_int]
theorem call_free (X : Call) (n : Nat) {h : AHeap} {N Q : Nat} {rest : List Value} {pins : List (Nat × AObj)} {s : List NS} {fp : List Nat} (H : Ctx h N Q 67 rest pins s fp) (ht : tot s ≤ 1000000) {a : Nat} (t : Nat) (ha : a < s.length) :
    ∃ h' fp', Ctx h' N Q 67 rest pins (frS s a t) fp' ∧ Fr h h' fp fp' ∧ ∀ (K kp : K2), cCallV EK (evF EK X (n + 1)) (F57 Q) [I a, I t] h K kp = K (.tuple #[]) h' := by
  have hs : s[a]? = some s[a] := List.getElem?_eq_getElem ha
  generalize s[a] = st at hs
  have hl := totF_at hs
  obtain ⟨h', fp', e, r, f⟩ := ev57 X n H.rep hs t (by unfold tot at ht; simp only [AHeap.most]; omega)
  have hfr : frS s a t = setFree s a (st.free ++ [(t : Int)]) := by unfold frS; rw [hs]
  rw [← hfr] at r
  refine ⟨h', fp', H.step r f, f, fun K kp => ?_⟩
  simp only [cCallV_func, c57, List.nil_append, List.cons_append]
  rw [cCall_ret e]
  simp only [asRetL_unit]
end Go.Amb
end

section
/- Automata being laid: of one kid, again and again. -/
set_option linter.unusedVariables false
set_option linter.unusedSimpArgs false
namespace Go.Amb
open Go.Proofs

def Spec61 (X : Call) (B : Bx) (p : Pat) : Prop := ∀ (n : Nat) {N Q : Nat} {h : AHeap} {a b c : Value} {rest : List Value} {pins : List (Nat × AObj)} {s : List NS} {fp : List Nat}, PatAt N h p a b c → GoodP p → p.wt ≤ n → Ctx h N Q 67 rest pins s fp →
    (∀ x ∈ clos B Q, x ∈ pins) → tot s + 8 * p.nodes ≤ 1000000 →
    ∃ h' fp', Ctx h' N Q 67 rest pins (layP p s).2.2 fp' ∧ Fr h h' fp fp' ∧ evF EK X n 61 [.agg [a, b, c].toArray, P0 B.b11 0, P0 B.b10 0, P0 B.b9 0, P0 B.b6 0, P0 B.b7 0, P0 Q 0] h = some (.ret (.tuple #[I (layP p s).1, I (layP p s).2.1]) h')
theorem Spec61.call {X : Call} {B : Bx} {p : Pat} (S : Spec61 X B p) (n : Nat) {N Q : Nat} {h : AHeap} {a b c : Value} {rest : List Value} {pins : List (Nat × AObj)} {s : List NS} {fp : List Nat} (HP : PatAt N h p a b c) (hg : GoodP p) (hn : p.wt ≤ n) (H : Ctx h N Q 67 rest pins s fp)
    (hc : ∀ x ∈ clos B Q, x ∈ pins) (ht : tot s + 8 * p.nodes ≤ 1000000) :
    ∃ h' fp', Ctx h' N Q 67 rest pins (layP p s).2.2 fp' ∧ Fr h h' fp fp' ∧ ∀ (K kp : K2), cCallV EK (evF EK X n) (F61 B Q) [.agg [a, b, c].toArray] h K kp = K (.tuple #[I (layP p s).1, I (layP p s).2.1]) h' := by
  obtain ⟨h', fp', r, f, e⟩ := S n HP hg hn H hc ht
  refine ⟨h', fp', r, f, fun K kp => ?_⟩
  simp only [cCallV_func, c61, List.nil_append, List.cons_append]
  rw [cCall_ret e]
  simp only [asRetL_two, asResL_cons, asResL_nil, asTIL_one, asLK_int]

/-- Of a pattern of three operators. -/
theorem ev58 (X : Call) (B : Bx) {p : Pat} (hS : ∀ k ∈ p.kids, Spec61 X B k) (hop : p.op = 4 ∨ p.op = 5 ∨ p.op = 6) (n : Nat) {N Q : Nat} {h : AHeap} {a b c : Value} {rest : List Value} {pins : List (Nat × AObj)} {s : List NS} {fp : List Nat} (HP : PatAt N h p a b c) (hg : GoodP p) (hn : p.wt ≤ n + 4) (H : Ctx h N Q 67 rest pins s fp)
    (hc : ∀ x ∈ clos B Q, x ∈ pins) (ht : tot s + 8 * p.nodes ≤ 1000000) :
    ∃ h' fp', Ctx h' N Q 67 rest pins (layP p s).2.2 fp' ∧ Fr h h' fp fp' ∧ evF EK X (n + 1) 58 [.agg [a, b, c].toArray, P0 B.b6 0, P0 B.b8 0, P0 B.b7 0] h = some (.ret (.tuple #[I (layP p s).1, I (layP p s).2.1]) h') := by
  have hwt := p.wt_eq
  obtain ⟨n, rfl⟩ : ∃ q, n = q + 1 := ⟨n - 1, by omega⟩
  obtain ⟨ha, hb, _⟩ := HP.parts
  obtain ⟨ka, kc, hce, hkl⟩ := HP.kidsSlc
  subst hce ha
  -- the kid
  have hk1 := (good_kids hg).2.1 hop
  have hget : p.kids[0]? = some p.kids[0] := List.getElem?_eq_getElem (by omega)
  generalize p.kids[0] = kd at hget
  have hgk := hg.eq.2.2.at hget
  have hwk := Pat.wtL_at hget
  have hnk := Pat.nodesL_at hget
  have hnp := p.nodes_eq
  have hlay : layP p s = (s.length, (layP kd (newS s)).2.2.length, tieP p.op s.length (layP kd (newS s)).1 (layP kd (newS s)).2.1 (layP kd (newS s)).2.2.length (newS (layP kd (newS s)).2.2)) := by
    rw [layP_eq, if_neg (by omega), if_neg (by omega), if_pos hop]
    match hks : p.kids, hget, hk1 with
    | [k], hget, _ =>
      simp at hget
      subst hget
      rfl
  have hlies := layP_lies kd (newS s) hgk
  have hli := hlies.i
  have hlo := hlies.o
  have hlt := hlies.t
  have tn := tot_newS s
  simp only [length_newS] at hli hlo
  -- the box
  have H0 := H.new (.cells [I p.op, b, .slice ka p.kids.length kc] 64 none false)
  have F0 := Fr.new h (.cells [I p.op, b, .slice ka p.kids.length kc] 64 none false) fp
  have HP0 := H.pat F0 HP
  have hc0 : ∀ x ∈ clos B Q, x ∈ (h.next, AObj.cells [I p.op, b, .slice ka p.kids.length kc] 64 none false) :: pins := fun x hx => List.mem_cons_of_mem _ (hc x hx)
  have m6 : (B.b6, AObj.cells [F56 Q] 58 none false) ∈ (h.next, AObj.cells [I p.op, b, .slice ka p.kids.length kc] 64 none false) :: pins := hc0 _ (by simp [clos])
  have m7 : (B.b7, AObj.cells [F57 Q] 103 none false) ∈ (h.next, AObj.cells [I p.op, b, .slice ka p.kids.length kc] 64 none false) :: pins := hc0 _ (by simp [clos])
  have m8 : (B.b8, AObj.cells [F61 B Q] 104 none false) ∈ (h.next, AObj.cells [I p.op, b, .slice ka p.kids.length kc] 64 none false) :: pins := hc0 _ (by simp [clos])
  have mb : (h.next, AObj.cells [I p.op, b, .slice ka p.kids.length kc] 64 none false) ∈ (h.next, AObj.cells [I p.op, b, .slice ka p.kids.length kc] 64 none false) :: pins := List.mem_cons_self
  generalize hbx : h.next = bx at *
  generalize hp : (bx, AObj.cells [I p.op, b, .slice ka p.kids.length kc] 64 none false) :: pins = pins' at *
  rw [hlay]
  rw [evF_B _ _ _ _ _ _ (by kernel_rfl), g58_eq, g58]
  simp only [st0_zero, st0_succ, cNew_eq, Value.cells, List.toList_toArray, cLoad1_ptr, ld1_eq, H0.cell m6, hbx, List.getElem?_cons_zero, ob_some, asLK_any]
  obtain ⟨h1, fp1, H1, F1, e1⟩ := call_state X n H0 (by omega)
  simp only [e1, cLoad1_ptr, ld1_eq, H1.cell m8, H1.cell mb, List.getElem?_cons_zero, List.getElem?_cons_succ, ob_some, asLK_any, rety_eq, dr_ret, cFieldAddr_ptr, Nat.zero_add, asLK_slc]
  have HP1 := H0.pat F1 HP0
  obtain ⟨j, cap, kx, ky, kz, he, hq0, _, _, HK, hkx, hky, hkz, c0, c1, c2⟩ := HP1.kid hget
  cases he
  have hx0 : idx? 0 p.kids.length = some 0 := idx?_nat (q := 0) (by omega)
  simp only [cIdxS_slice, hx0, ob_some, Nat.zero_mul, Nat.zero_add, rety_eq, dr_ret, cLoadA_ptr, load_kid hkx hky hkz (by simpa using c0) (by simpa using c1) (by simpa using c2)]
  obtain ⟨h2, fp2, H2, F2, e2⟩ := (hS kd (List.mem_of_getElem? hget)).call (n + 1) HK hgk (by omega) H1 hc0 (by omega)
  simp only [e2, dr_ret, cExtract_eq, List.getElem?_cons_zero, List.getElem?_cons_succ, ob_some, rety_eq, cLoad1_ptr, ld1_eq, H2.cell m6, asLK_any, List.toList_toArray]
  obtain ⟨h3, fp3, H3, F3, e3⟩ := call_state X n H2 (by omega)
  have tn3 := tot_newS (layP kd (newS s)).2.2
  simp only [e3, cLoad1_ptr, ld1_eq, H3.cell m7, List.getElem?_cons_zero, ob_some, asLK_any]
  obtain ⟨h4, fp4, H4, F4, e4⟩ := call_free X n H3 (by omega) (a := s.length) (layP kd (newS s)).1 (by simp; omega)
  have t4 := tot_frS (newS (layP kd (newS s)).2.2) s.length (layP kd (newS s)).1
  simp only [e4, cFieldAddr_ptr, Nat.zero_add, cLoad1_ptr, ld1_eq, H4.cell mb, List.getElem?_cons_zero, ob_some, asLK_int, cBin_neq]
  generalize hs4 : frS (newS (layP kd (newS s)).2.2) s.length (layP kd (newS s)).1 = s4 at *
  have l4 : s4.length = (layP kd (newS s)).2.2.length + 1 := by rw [← hs4]; simp
  have htie : tieP p.op s.length (layP kd (newS s)).1 (layP kd (newS s)).2.1 (layP kd (newS s)).2.2.length (newS (layP kd (newS s)).2.2) = frS (tie3 p.op (layP kd (newS s)).2.1 (layP kd (newS s)).1 (tie2 p.op s.length (layP kd (newS s)).2.2.length s4)) (layP kd (newS s)).2.1 (layP kd (newS s)).2.2.length := by
    unfold tieP; rw [hs4]
  rw [htie]
  generalize hI : (layP kd (newS s)).1 = ii at *
  generalize hO : (layP kd (newS s)).2.1 = oo at *
  generalize hL : (layP kd (newS s)).2.2.length = ll at *
  have F04 := F0.trans (F1.trans (F2.trans (F3.trans F4)))
  -- the last
  have last : ∀ (s5 : List NS) (h5 : AHeap) (fp5 : List Nat) (σ : St), Ctx h5 N Q 67 rest pins' s5 fp5 → Fr h h5 fp fp5 → s5.length = s4.length → tot s5 ≤ tot s4 + 2 → σ 3 = P0 B.b7 0 → σ 9 = I oo → σ 10 = I ll → σ 7 = I s.length →
      ∃ h' fp', Ctx h' N Q 67 rest pins (frS s5 oo ll) fp' ∧ Fr h h' fp fp' ∧ g58_C2 (evF EK X (n + 1)) (n + 1) σ h5 (finS EK [.tmp 5, .tmp 6]) = some (.ret (.tuple #[I s.length, I ll]) h') := by
    intro s5 h5 fp5 σ H5 F5 l5 t5 q3 q9 q10 q7
    obtain ⟨h6, fp6, H6, F6, e6⟩ := call_free X n H5 (by omega) (a := oo) ll (by omega)
    refine ⟨h6, fp6, ?_, F5.trans F6, ?_⟩
    · rw [← hp] at H6; exact H6.drop
    · rw [g58_C2]
      simp only [q3, q9, q10, cLoad1_ptr, ld1_eq, H5.cell m7, List.getElem?_cons_zero, ob_some, asLK_any, e6]
      simp [updL_cons, q7, q10]
  have next : ∀ (s5 : List NS) (h5 : AHeap) (fp5 : List Nat) (σ : St), Ctx h5 N Q 67 rest pins' s5 fp5 → Fr h h5 fp fp5 → s5.length = s4.length → tot s5 ≤ tot s4 + 1 → σ 3 = P0 B.b7 0 → σ 9 = I oo → σ 8 = I ii → σ 10 = I ll → σ 7 = I s.length → σ 4 = P0 bx 0 →
      ∃ h' fp', Ctx h' N Q 67 rest pins (frS (tie3 p.op oo ii s5) oo ll) fp' ∧ Fr h h' fp fp' ∧ g58_C1 (evF EK X (n + 1)) (n + 1) σ h5 (finS EK [.tmp 5, .tmp 6]) = some (.ret (.tuple #[I s.length, I ll]) h') := by
    intro s5 h5 fp5 σ H5 F5 l5 t5 q3 q9 q8 q10 q7 q4
    rw [g58_C1]
    simp only [q4, q3, q9, q8, cFieldAddr_ptr, Nat.zero_add, cLoad1_ptr, ld1_eq, H5.cell mb, H5.cell m7, List.getElem?_cons_zero, ob_some, asLK_int, asLK_any, cBin_neq, cIf_eq]
    unfold tie3
    by_cases e6 : p.op = 6
    · simp only [e6, decide_true, Bool.not_true, Bool.false_eq_true, ↓reduceIte]
      exact last s5 h5 fp5 _ H5 F5 l5 (by omega) (by simp [updL_cons, q3]) (by simp [updL_cons, q9]) (by simp [updL_cons, q10]) (by simp [updL_cons, q7])
    · obtain ⟨h6, fp6, H6, F6, e6'⟩ := call_free X n H5 (by omega) (a := oo) ii (by omega)
      simp only [e6, decide_false, Bool.not_false, ↓reduceIte, e6']
      have t6 := tot_frS s5 oo ii
      exact last (frS s5 oo ii) h6 fp6 _ H6 (F5.trans F6) (by simp; exact l5) (by omega) (by simp [updL_cons, q3]) (by simp [updL_cons, q9]) (by simp [updL_cons, q10]) (by simp [updL_cons, q7])
  unfold tie2
  by_cases e5 : p.op = 5
  · simp only [e5, decide_true, Bool.not_true, cIf_eq, Bool.false_eq_true, ↓reduceIte]
    refine Exists.elim (next s4 h4 fp4 _ H4 F04 rfl (by omega) ?_ ?_ ?_ ?_ ?_ ?_) fun h' ⟨fp', r1, r2, r3⟩ => ⟨h', fp', by rw [e5] at r1; exact r1, r2, r3⟩
    all_goals simp [updL_cons]
  · simp only [e5, decide_false, Bool.not_false, cIf_eq, ↓reduceIte, cLoad1_ptr, ld1_eq, H4.cell m7, List.getElem?_cons_zero, ob_some, asLK_any]
    obtain ⟨h5, fp5, H5, F5, e5'⟩ := call_free X n H4 (by omega) (a := s.length) ll (by omega)
    have t5 := tot_frS s4 s.length ll
    simp only [e5']
    refine Exists.elim (next (frS s4 s.length ll) h5 fp5 _ H5 (F04.trans F5) (by simp) (by omega) ?_ ?_ ?_ ?_ ?_ ?_) fun h' ⟨fp', r1, r2, r3⟩ => ⟨h', fp', r1, r2, r3⟩
    all_goals simp [updL_cons]
end Go.Amb
end

section
/- Automata being laid: one kid behind the other. -/
set_option linter.unusedVariables false
set_option linter.unusedSimpArgs false
namespace Go.Amb
open Go.Proofs

theorem exF {E : Option Ans} {R : AHeap → Option Ans} {A A' B B' : AHeap → List Nat → Prop} (x : ∃ h' fp', A h' fp' ∧ B h' fp' ∧ E = R h') (y : ∀ h' fp', A h' fp' → B h' fp' → A' h' fp' ∧ B' h' fp') : ∃ h' fp', A' h' fp' ∧ B' h' fp' ∧ E = R h' := by
  obtain ⟨h', fp', a, b, c⟩ := x
  obtain ⟨a', b'⟩ := y h' fp' a b
  exact ⟨h', fp', a', b', c⟩
/-- A kid in a box of its own. -/
theorem kid_box {h : AHeap} {N Q : Nat} {T : TypeId} {rest : List Value} {pins : List (Nat × AObj)} {s : List NS} {fp : List Nat} (H : Ctx h N Q T rest pins s fp) (x y z : Value) {n : Int} (hx : x = I n) (hy : ∃ a n c, y = .slice a n c) (hz : ∃ a n c, z = .slice a n c) :
    ∃ h', Ctx h' N Q T rest pins s fp ∧ Fr h h' fp fp ∧ (∀ f : AHeap → Option Ans, cStore 3 (P0 h.next 0) (.agg [x, y, z].toArray) (h.new (.cells [.int .i64 0, .slice none 0 0, .slice none 0 0] 64 none false)) f = f h') ∧
      ∀ (R : Type) (f : List Value → Option R), h'.ldL h.next [.int .i64, .slc, .slc] 0 f = f [x, y, z] := by
  have H1 := H.new (.cells [.int .i64 0, .slice none 0 0, .slice none 0 0] 64 none false)
  have hfresh : ∀ q ∈ pins, q.1 ≠ h.next := fun q hq => by have := (H.pin q hq).2.1; omega
  have H2 := H1.turn (o' := .cells [x, y, z] 64 none false) hfresh
  have hg := AHeap.get_set_same (h.new (.cells [.int .i64 0, .slice none 0 0, .slice none 0 0] 64 none false)) h.next (.cells [x, y, z] 64 none false)
  refine ⟨_, H2.drop, ⟨by simp, fun i hi _ => ?_, fun i hi => .inl hi⟩, fun f => ?_, fun R f => load_kid hx hy hz (by rw [cell?_of hg]; rfl) (by rw [cell?_of hg]; rfl) (by rw [cell?_of hg]; rfl)⟩
  · rw [AHeap.get_set_ne _ _ (by omega), get_new_lt _ hi]
  · have ho : [x, y, z].all AHeap.one? = true := by
      obtain ⟨_, _, _, rfl⟩ := hy
      obtain ⟨_, _, _, rfl⟩ := hz
      subst hx
      rfl
    have hst : (h.new (.cells [.int .i64 0, .slice none 0 0, .slice none 0 0] 64 none false)).st h.next 0 [x, y, z] = some ((h.new (.cells [.int .i64 0, .slice none 0 0, .slice none 0 0] 64 none false)).set h.next (.cells [x, y, z] 64 none false)) := by
      rw [st_of (get_new_self _ _) (by simp) ho]
      rfl
    rw [cStore_ptr _ _ _ _ _ (by simp [Value.cells])]
    simp only [Value.cells, List.toList_toArray, hst, ob_some]
theorem slice1 {h : AHeap} {j n cap : Nat} {vs : List Value} {e : TypeId} {K : K1} (hg : h.get j = .cells vs e none true) (hn : 1 ≤ n) : cSliceS 3 (S0 j 0 n cap) (some (I 1)) none none h K = K (S0 j 3 (n - 1) (cap - 1)) := by
  have hb : bnd? 1 n = some 1 := by
    unfold bnd?
    have h1 : decide ((1 : Int) ≤ (n : Int)) = true := by simp; omega
    simp [h1]
  unfold cSliceS
  simp only [slcB, ob_some, num?, hb, AHeap.szOk, hg]

theorem ev60_loop (X : Call) (B : Bx) {p : Pat} (hS : ∀ k ∈ p.kids, Spec61 X B k) (hg : GoodP p) (n lf : Nat) (hw : Pat.wtL p.kids ≤ n + 1) {N Q : Nat} {a b : Value} {j cap : Nat} {rest : List Value} {pins : List (Nat × AObj)} (hc : ∀ x ∈ clos B Q, x ∈ pins) (iin : Nat) (K : KS)
    (kx : ∀ σ' h' (o : Nat), σ' 6 = I iin → σ' 7 = I o → K (.exit 0) σ' h' = some (.ret (.tuple #[I iin, I o]) h')) :
    ∀ (m i f : Nat) (h : AHeap) (σ : St) (o : Nat) (s : List NS) (fp : List Nat), p.kids.length - 1 - i = m → i + 1 ≤ p.kids.length → m < f → PatAt N h p a b (S0 j 0 p.kids.length cap) → Ctx h N Q 67 rest pins s fp →
    tot s + 8 * Pat.nodesL (p.kids.drop (i + 1)) ≤ 1000000 → o < s.length → iin < s.length → σ 1 = P0 B.b8 0 → σ 2 = P0 B.b7 0 → σ 23 = S0 j 3 (p.kids.length - 1) (cap - 1) → σ 25 = I i → σ 24 = I ((p.kids.length - 1 : Nat) : Int) → σ 6 = I iin → σ 7 = I o →
    ∃ h' fp', Ctx h' N Q 67 rest pins (chainP (p.kids.drop (i + 1)) iin o s).2.2 fp' ∧ Fr h h' fp fp' ∧ loopS (g60_L1 (evF EK X (n + 1)) lf) f σ h K = some (.ret (.tuple #[I iin, I (chainP (p.kids.drop (i + 1)) iin o s).2.1]) h') := by
  intro m
  induction m with
  | zero =>
    intro i f h σ o s fp hm hi hf HP H ht ho hii q1 q2 q23 q25 q24 q6 q7
    obtain ⟨f, rfl⟩ : ∃ q, f = q + 1 := ⟨f - 1, by omega⟩
    have hil : i = p.kids.length - 1 := by omega
    rw [show p.kids.drop (i + 1) = [] from List.drop_eq_nil_of_le (by omega)]
    unfold chainP
    refine ⟨h, fp, H, Fr.refl h fp, ?_⟩
    rw [loopS_succ, g60_L1]
    have : ¬ ((i : Int) < ((p.kids.length - 1 : Nat) : Int)) := by omega
    simp only [q25, q24, cBin_lss, this, decide_false, cIf_eq, Bool.false_eq_true, if_false, loopK_exit]
    exact kx _ _ o (by simp [updL_cons, q6]) (by simp [updL_cons, q7])
  | succ m ih =>
    intro i f h σ o s fp hm hi hf HP H ht ho hii q1 q2 q23 q25 q24 q6 q7
    obtain ⟨f, rfl⟩ : ∃ q, f = q + 1 := ⟨f - 1, by omega⟩
    have hil : i + 1 < p.kids.length := by omega
    have hget : p.kids[i + 1]? = some p.kids[i + 1] := List.getElem?_eq_getElem hil
    have hdrop : p.kids.drop (i + 1) = p.kids[i + 1] :: p.kids.drop (i + 1 + 1) := List.drop_eq_getElem_cons hil
    generalize p.kids[i + 1] = kd at hget hdrop
    rw [hdrop] at ht ⊢
    simp only [Pat.nodesL] at ht
    have hgk := hg.eq.2.2.at hget
    have hwk := Pat.wtL_at hget
    have hlies := layP_lies kd s hgk
    have hli := hlies.i
    have hlo := hlies.o
    have hlt := hlies.t
    obtain ⟨_, _, hz, hlen⟩ := HP.kidsSlc
    have htop : (p.kids.length : Int) ≤ 9223372036854775807 := by unfold top at hlen; omega
    obtain ⟨j', cap', kx', ky, kz, he, _, _, hj, HK, hkx, hky, hkz, c0, c1, c2⟩ := HP.kid hget
    cases he
    have hlt1 : ((i : Int) < ((p.kids.length - 1 : Nat) : Int)) := by omega
    have hx : idx? (i : Int) (p.kids.length - 1) = some i := idx?_nat (by omega)
    have eoff : 3 + i * 3 = (i + 1) * 3 := by omega
    rw [loopS_succ, g60_L1]
    simp only [q25, q24, cBin_lss, hlt1, decide_true, cIf_eq, if_true, q23, cIdxS_slice, hx, ob_some, eoff, cLoadA_ptr, load_kid hkx hky hkz c0 c1 c2, cNew_eq]
    obtain ⟨h0, H0, F0, e0, l0⟩ := kid_box H kx' ky kz hkx hky hkz
    have HK0 := H.pat F0 HK
    have m7 := hc (B.b7, AObj.cells [F57 Q] 103 none false) (by simp [clos])
    have m8 := hc (B.b8, AObj.cells [F61 B Q] 104 none false) (by simp [clos])
    obtain ⟨h1, fp1, H1, F1, e1⟩ := (hS kd (List.mem_of_getElem? hget)).call (n + 1) HK0 hgk (by omega) H0 hc (by omega)
    obtain ⟨h2, fp2, H2, F2, e2⟩ := call_free X n H1 (by omega) (a := o) (layP kd s).1 (by omega)
    have t2 := tot_frS (layP kd s).2.2 o (layP kd s).1
    simp only [e0, l0, q1, cLoad1_ptr, ld1_eq, H0.cell m8, List.getElem?_cons_zero, ob_some, asLK_any, cLoadA_ptr, e1, cExtract_eq, List.getElem?_cons_succ, List.toList_toArray, q2, H1.cell m7, q7, e2]
    rw [cBin_add _ _ _ (by omega) (by omega)]
    simp only [loopK_normal]
    unfold chainP
    have F02 := F0.trans (F1.trans F2)
    refine Exists.elim (ih (i + 1) f h2 _ (layP kd s).2.1 (frS (layP kd s).2.2 o (layP kd s).1) fp2 (by omega) (by omega) (by omega) (H.pat F02 HP) H2 (by omega) (by simp; omega) (by simp; omega) ?_ ?_ ?_ ?_ ?_ ?_ ?_) fun h' ⟨fp', r1, r2, r3⟩ => ⟨h', fp', r1, F02.trans r2, r3⟩
    all_goals simp [updL_cons, q1, q2, q23, q24, q6]

theorem ev60 (X : Call) (B : Bx) {p : Pat} (hS : ∀ k ∈ p.kids, Spec61 X B k) (hop : p.op = 2) (n : Nat) {N Q : Nat} {h : AHeap} {a b c : Value} {rest : List Value} {pins : List (Nat × AObj)} {s : List NS} {fp : List Nat} (HP : PatAt N h p a b c) (hg : GoodP p) (hn : p.wt ≤ n + 4) (H : Ctx h N Q 67 rest pins s fp)
    (hc : ∀ x ∈ clos B Q, x ∈ pins) (ht : tot s + 8 * p.nodes ≤ 1000000) :
    ∃ h' fp', Ctx h' N Q 67 rest pins (layP p s).2.2 fp' ∧ Fr h h' fp fp' ∧ evF EK X (n + 1) 60 [.agg [a, b, c].toArray, P0 B.b8 0, P0 B.b7 0] h = some (.ret (.tuple #[I (layP p s).1, I (layP p s).2.1]) h') := by
  have hwt := p.wt_eq
  obtain ⟨n, rfl⟩ : ∃ q, n = q + 1 := ⟨n - 1, by omega⟩
  obtain ⟨ha, hb, _⟩ := HP.parts
  have hk2 := (good_kids hg).1 (.inl hop)
  have hget : p.kids[0]? = some p.kids[0] := List.getElem?_eq_getElem (by omega)
  have hdrop : p.kids = p.kids[0] :: p.kids.drop 1 := by
    have := List.drop_eq_getElem_cons (l := p.kids) (i := 0) (by omega)
    simpa using this
  generalize p.kids[0] = kd at hget hdrop
  have hgk := hg.eq.2.2.at hget
  have hwk := Pat.wtL_at hget
  have hnp := p.nodes_eq
  have hnl : Pat.nodesL p.kids = kd.nodes + Pat.nodesL (p.kids.drop 1) := by
    have := congrArg Pat.nodesL hdrop
    simpa only [Pat.nodesL] using this
  have hlay : layP p s = chainP (p.kids.drop 1) (layP kd s).1 (layP kd s).2.1 (layP kd s).2.2 := by
    rw [layP_eq, if_pos hop]
    have : headP p.kids s = headP (kd :: p.kids.drop 1) s := by rw [← hdrop]
    rw [this]
    simp only [headP]
  have hlies := layP_lies kd s hgk
  have hli := hlies.i
  have hlo := hlies.o
  have hlt := hlies.t
  have hlp := chainP_lies (p.kids.drop 1) (layP kd s).1 (layP kd s).2.1 (layP kd s).2.2 (by
    have := hg.eq.2.2
    rw [hdrop] at this
    unfold GoodL at this
    exact this.2) hli.2 hlo.2
  -- the box
  have H0 := H.new (.cells [a, b, c] 64 none false)
  have F0 := Fr.new h (.cells [a, b, c] 64 none false) fp
  have HP0 := H.pat F0 HP
  obtain ⟨j, cap, kx, ky, kz, he, hq0, hlc, _, HK, hkx, hky, hkz, c0, c1, c2⟩ := HP0.kid hget
  subst he ha
  have hc0 : ∀ x ∈ clos B Q, x ∈ (h.next, AObj.cells [I p.op, b, S0 j 0 p.kids.length cap] 64 none false) :: pins := fun x hx => List.mem_cons_of_mem _ (hc x hx)
  have m8 : (B.b8, AObj.cells [F61 B Q] 104 none false) ∈ (h.next, AObj.cells [I p.op, b, S0 j 0 p.kids.length cap] 64 none false) :: pins := hc0 _ (by simp [clos])
  have mb : (h.next, AObj.cells [I p.op, b, S0 j 0 p.kids.length cap] 64 none false) ∈ (h.next, AObj.cells [I p.op, b, S0 j 0 p.kids.length cap] 64 none false) :: pins := List.mem_cons_self
  generalize hbx : h.next = bx at *
  generalize hp : (bx, AObj.cells [I p.op, b, S0 j 0 p.kids.length cap] 64 none false) :: pins = pins' at *
  rw [hlay]
  rw [evF_B _ _ _ _ _ _ (by kernel_rfl), g60_eq, g60]
  have hx0 : idx? 0 p.kids.length = some 0 := idx?_nat (q := 0) (by omega)
  simp only [st0_zero, st0_succ, cNew_eq, Value.cells, List.toList_toArray, cLoad1_ptr, ld1_eq, H0.cell m8, H0.cell mb, hbx, List.getElem?_cons_zero, List.getElem?_cons_succ, ob_some, asLK_any, asLK_slc, rety_eq, dr_ret, cFieldAddr_ptr, Nat.zero_add, cIdxS_slice, hx0, Nat.zero_mul, cLoadA_ptr,
    load_kid hkx hky hkz (by simpa using c0) (by simpa using c1) (by simpa using c2)]
  obtain ⟨h2, fp2, H2, F2, e2⟩ := (hS kd (List.mem_of_getElem? hget)).call (n + 1) HK hgk (by omega) H0 hc0 (by omega)
  have HP2 := H0.pat F2 HP0
  have hgj : ∃ vs e, h2.get j = .cells vs e none true := by
    rcases HP2.parts.2.2 with ⟨g, _⟩ | ⟨i, cap', e, vs, g1, _, _, _, g5, _⟩
    · rw [g] at hq0; simp at hq0
    · cases g1; exact ⟨vs, e, g5⟩
  obtain ⟨vs, ve, hgj⟩ := hgj
  simp only [e2, dr_ret, cExtract_eq, List.getElem?_cons_zero, List.getElem?_cons_succ, ob_some, rety_eq, cFieldAddr_ptr, Nat.zero_add, cLoad1_ptr, ld1_eq, H2.cell mb, asLK_slc, slice1 hgj (show 1 ≤ p.kids.length by omega), cLenS_eq, List.toList_toArray]
  have hw := Pat.wtL_ge p.kids
  rw [hlp.1]
  refine exF (ev60_loop X B hS hg n (n + 1) (by omega) hc0 (layP kd s).1 _ ?_ (p.kids.length - 1) 0 (n + 1) h2 _ (layP kd s).2.1 (layP kd s).2.2 fp2 (by omega) (by omega) (by omega) HP2 H2 (by rw [Nat.zero_add]; omega) hlo.2 hli.2 ?_ ?_ ?_ ?_ ?_ ?_ ?_) fun h' fp' r1 r2 => ⟨by rw [← hp] at r1; exact r1.drop, F0.trans (F2.trans r2)⟩
  · intro σ' h' o s6 s7
    simp [g60_C2, updL_cons, s6, s7]
  all_goals simp [updL_cons]
end Go.Amb
end

section
/- Automata being laid: one of several. -/
set_option linter.unusedVariables false
set_option linter.unusedSimpArgs false
namespace Go.Amb
open Go.Proofs

def nats (l : List Nat) : List Int := l.map (fun (n : Nat) => (n : Int))
@[simp] theorem length_nats (l : List Nat) : (nats l).length = l.length := by simp [nats]
/-- A list of numbers beside, that grows. -/
def CtxO (h : AHeap) (N Q : Nat) (T : TypeId) (rest : List Value) (pins : List (Nat × AObj)) (s : List NS) (fp : List Nat) (e : Nat) (l : List Nat) (v : Value) : Prop :=
  (l = [] ∧ v = nilS ∧ Ctx h N Q T rest pins s fp) ∨ ∃ F, l ≠ [] ∧ v = S0 F 0 l.length l.length ∧ e ≤ F ∧ (∀ x ∈ pins, x.1 ≠ F) ∧ Ctx h N Q T rest ((F, .cells (ints (nats l)) 3 (some 1) false) :: pins) s fp
theorem CtxO.ctx {h : AHeap} {N Q : Nat} {T : TypeId} {rest : List Value} {pins : List (Nat × AObj)} {s : List NS} {fp : List Nat} {e : Nat} {l : List Nat} {v : Value} (H : CtxO h N Q T rest pins s fp e l v) : Ctx h N Q T rest pins s fp := by
  rcases H with ⟨_, _, H⟩ | ⟨F, _, _, _, _, H⟩
  · exact H
  · exact H.drop
theorem CtxO.step {h h' : AHeap} {N Q : Nat} {T : TypeId} {rest : List Value} {pins : List (Nat × AObj)} {s s' : List NS} {fp fp' : List Nat} {e : Nat} {l : List Nat} {v : Value} (H : CtxO h N Q T rest pins s fp e l v) (R : LayRep h' Q T rest s' fp') (F : Fr h h' fp fp') : CtxO h' N Q T rest pins s' fp' e l v := by
  rcases H with ⟨a, b, H⟩ | ⟨G, a, b, c, d, H⟩
  · exact .inl ⟨a, b, H.step R F⟩
  · exact .inr ⟨G, a, b, c, d, H.step R F⟩
theorem CtxO.slc {h : AHeap} {N Q : Nat} {T : TypeId} {rest : List Value} {pins : List (Nat × AObj)} {s : List NS} {fp : List Nat} {e : Nat} {l : List Nat} {v : Value} (H : CtxO h N Q T rest pins s fp e l v) : ∃ a c, v = .slice a l.length c := by
  rcases H with ⟨rfl, rfl, _⟩ | ⟨F, _, rfl, _⟩ <;> exact ⟨_, _, rfl⟩
/-- Only from some place on anything is turned. -/
structure FrE (e : Nat) (h h' : AHeap) (fp fp' : List Nat) : Prop where
  next : h.next ≤ h'.next
  keep : ∀ i, i < e → i ∉ fp → h'.get i = h.get i
  sub : ∀ i ∈ fp', i ∈ fp ∨ (e ≤ i ∧ i < h'.next)
theorem FrE.trans {e : Nat} {h h' h'' : AHeap} {fp fp' fp'' : List Nat} (a : FrE e h h' fp fp') (b : FrE e h' h'' fp' fp'') : FrE e h h'' fp fp'' := by
  refine ⟨Nat.le_trans a.next b.next, fun i hi hf => ?_, fun i hi => ?_⟩
  · rw [b.keep i hi (fun hp => by
      rcases a.sub i hp with h1 | h1
      · exact hf h1
      · omega)]
    exact a.keep i hi hf
  · rcases b.sub i hi with h1 | h1
    · rcases a.sub i h1 with h2 | h2
      · exact .inl h2
      · have := b.next; exact .inr ⟨h2.1, by omega⟩
    · exact .inr h1
theorem Fr.toE {h h' : AHeap} {fp fp' : List Nat} (F : Fr h h' fp fp') {e : Nat} (he : e ≤ h.next) : FrE e h h' fp fp' :=
  ⟨F.next, fun i hi hf => F.keep i (by omega) hf, fun i hi => by
    rcases F.sub i hi with q | q
    · exact .inl q
    · exact .inr ⟨by omega, q.2⟩⟩
theorem FrE.toFr {h h' : AHeap} {fp fp' : List Nat} (F : FrE h.next h h' fp fp') : Fr h h' fp fp' := ⟨F.next, F.keep, F.sub⟩
/-- One number more. -/
theorem CtxO.push {h : AHeap} {N Q : Nat} {T : TypeId} {rest : List Value} {pins : List (Nat × AObj)} {s : List NS} {fp : List Nat} {e : Nat} {l : List Nat} {v : Value} (H : CtxO h N Q T rest pins s fp e l v) (x : Nat) (he : e ≤ h.next) (hl : l.length < 1000000) :
    ∃ h' v', CtxO h' N Q T rest pins s fp e (l ++ [x]) v' ∧ FrE e h h' fp fp ∧ ∀ K : Value → K2, (cBuildS 3 1 [(0, 1, I x)] [.int .i64 0] h fun u h1 => cAppend 3 1 8 v u h1 (K u)) = K (S0 h.next 0 1 1) v' h' := by
  have hb : (l.length + 1) * 8 ≤ AHeap.most := by simp only [AHeap.most]; omega
  have hn1 : (h.new (.cells [I x] 3 none false)).next = h.next + 1 := rfl
  rcases H with ⟨rfl, rfl, H⟩ | ⟨F, a, rfl, c, d, H⟩
  · have H1 := H.new (.cells [I x] 3 none false)
    have H2 := H1.new (.cells [I x] 3 (some 1) false)
    refine ⟨(h.new (.cells [I x] 3 none false)).new (.cells [I x] 3 (some 1) false), S0 (h.next + 1) 0 1 1, .inr ⟨h.next + 1, by simp, rfl, by omega, fun q hq => by have := (H.pin q hq).2.1; omega, ⟨H2.rep, H2.low, H2.hn, fun q hq => H2.pin q ?_⟩⟩, ?_, fun K => ?_⟩
    · rcases List.mem_cons.1 hq with rfl | hq
      · exact List.mem_cons_self
      · exact List.mem_cons_of_mem _ (List.mem_cons_of_mem _ hq)
    · exact (((Fr.new h _ fp).trans (Fr.new _ _ fp))).toE he
    · simp only [cBuildS_eq, fill1, ob_some, cAppend_eq, src1 (x : Int) (get_new_self h _)]
      rw [app_nil (by decide) (by simpa using hb) (by decide) (by decide)]
      rfl
  · have H1 := H.new (.cells [I x] 3 none false)
    have hF : F < h.next := (H.pin _ List.mem_cons_self).2.1
    have hfp : F ∉ fp := (H.pin _ List.mem_cons_self).2.2
    have hg : (h.new (.cells [I x] 3 none false)).get F = .cells (ints (nats l)) 3 (some 1) false := by rw [get_new_lt _ hF]; exact (H.pin _ List.mem_cons_self).1
    generalize hh1 : h.new (.cells [I x] 3 none false) = h1 at *
    have C1 : Ctx h1 N Q T rest ((F, .cells (ints (nats l)) 3 (some 1) false) :: pins) s fp := H1.drop
    have C2 := C1.turn (o' := .gone) d
    have C3 := C2.drop.new (.cells (ints (nats l) ++ [I x]) 3 (some 1) false)
    have hn2 : (h1.set F .gone).next = h.next + 1 := hn1
    refine ⟨(h1.set F .gone).new (.cells (ints (nats l) ++ [I x]) 3 (some 1) false), S0 (h.next + 1) 0 (l.length + 1) (l.length + 1), .inr ⟨h.next + 1, by simp, by simp, by omega, fun q hq => by have := (H.pin q (List.mem_cons_of_mem _ hq)).2.1; omega, ?_⟩, ?_, fun K => ?_⟩
    · rw [hn2] at C3
      have e1 : ints (nats (l ++ [x])) = ints (nats l) ++ [I x] := by simp [ints, nats]
      rw [e1]
      exact C3
    · refine ⟨by show h.next ≤ (h1.set F .gone).next + 1; omega, fun i hi hf => ?_, fun i hi => .inl hi⟩
      rw [get_new_lt _ (by omega), AHeap.get_set_ne _ _ (by omega), ← hh1, get_new_lt _ (by omega)]
    · simp only [cBuildS_eq, fill1, ob_some, cAppend_eq, hh1]
      have hs : srcOf h1 1 (S0 h.next 0 1 1) = some (1, [I x]) := by rw [← hh1]; exact src1 (x : Int) (get_new_self h _)
      rw [hs]
      simp only [ob_some]
      rw [app_grown hg (by simp) rfl (by decide) hb (by decide) (by decide)]
      simp only [ob_some, hn1]
end Go.Amb
end

section
/- Automata being laid: one of several: the walk. -/
set_option linter.unusedVariables false
set_option linter.unusedSimpArgs false
namespace Go.Amb
open Go.Proofs

/-- How it shall end. -/
def GL (N Q : Nat) (T : TypeId) (rest : List Value) (pins : List (Nat × AObj)) (e : Nat) (h0 : AHeap) (fp0 : List Nat) (S : List NS) (x : Value) (r : Option Ans) : Prop :=
  ∃ h' fp', Ctx h' N Q T rest pins S fp' ∧ FrE e h0 h' fp0 fp' ∧ r = some (.ret x h')

theorem CtxO.at {h : AHeap} {N Q : Nat} {T : TypeId} {rest : List Value} {pins : List (Nat × AObj)} {s : List NS} {fp : List Nat} {e : Nat} {l : List Nat} {v : Value} (H : CtxO h N Q T rest pins s fp e l v) {i x : Nat} (hx : l[i]? = some x) :
    ∃ F c, v = S0 F 0 l.length c ∧ i < l.length ∧ h.cell? F i = some (I x) := by
  rcases H with ⟨rfl, _⟩ | ⟨F, _, rfl, _, _, H⟩
  · simp at hx
  · refine ⟨F, _, rfl, (List.getElem?_eq_some_iff.1 hx).1, ?_⟩
    rw [H.cell List.mem_cons_self]
    simp [ints, nats, hx]

theorem ev59_outs (X : Call) (B : Bx) (n lf : Nat) {N Q : Nat} {rest : List Value} {pins pins' : List (Nat × AObj)} {e : Nat} {h0 : AHeap} {fp0 : List Nat} (m7 : (B.b7, AObj.cells [F57 Q] 103 none false) ∈ pins') (a0 b0 : Nat) (outs : List Nat) (v : Value) (S : List NS) (K : KS)
    (kx : ∀ σ' h' fp', CtxO h' N Q 67 rest pins' S fp' e outs v → FrE e h0 h' fp0 fp' → σ' 7 = I a0 → σ' 13 = I b0 → GL N Q 67 rest pins e h0 fp0 S (.tuple #[I a0, I b0]) (K (.exit 2) σ' h')) :
    ∀ (m i f : Nat) (h : AHeap) (σ : St) (s : List NS) (fp : List Nat), outs.length - i = m → i ≤ outs.length → m < f → outs.length ≤ 1000000 → CtxO h N Q 67 rest pins' s fp e outs v → FrE e h0 h fp0 fp → e ≤ h.next → (∀ o ∈ outs, o < s.length) → tot s + (outs.length - i) ≤ 1000000 →
    outsP b0 (outs.drop i) s = S → σ 42 = v → σ 43 = I outs.length → σ 44 = I i → σ 13 = I b0 → σ 3 = P0 B.b7 0 → σ 7 = I a0 →
    GL N Q 67 rest pins e h0 fp0 S (.tuple #[I a0, I b0]) (loopS (g59_L3 (evF EK X (n + 1)) lf) f σ h K) := by
  intro m
  induction m with
  | zero =>
    intro i f h σ s fp hm hi hf hl H F he ho ht hS q42 q43 q44 q13 q3 q7
    obtain ⟨f, rfl⟩ : ∃ q, f = q + 1 := ⟨f - 1, by omega⟩
    have hil : i = outs.length := by omega
    subst hil
    rw [List.drop_length] at hS
    simp only [outsP] at hS
    subst hS
    rw [loopS_succ, g59_L3]
    simp only [q43, q44, cBin_lss, Int.lt_irrefl, decide_false, cIf_eq, Bool.false_eq_true, if_false, loopK_exit]
    exact kx _ h fp H F (by simp [updL_cons, q7]) (by simp [updL_cons, q13])
  | succ m ih =>
    intro i f h σ s fp hm hi hf hl H F he ho ht hS q42 q43 q44 q13 q3 q7
    obtain ⟨f, rfl⟩ : ∃ q, f = q + 1 := ⟨f - 1, by omega⟩
    have hil : i < outs.length := by omega
    have hget : outs[i]? = some outs[i] := List.getElem?_eq_getElem hil
    have hdrop : outs.drop i = outs[i] :: outs.drop (i + 1) := List.drop_eq_getElem_cons hil
    generalize outs[i] = o at hget hdrop
    rw [hdrop] at hS
    simp only [outsP] at hS
    obtain ⟨FF, c, hv, _, hc⟩ := H.at hget
    have hlt : ((i : Int) < (outs.length : Int)) := by omega
    obtain ⟨h1, fp1, H1, F1, e1⟩ := call_free X n H.ctx (by omega) (a := o) b0 (ho o (List.mem_of_getElem? hget))
    have t1 := tot_frS s o b0
    rw [loopS_succ, g59_L3]
    simp only [q42, q43, q44, q13, q3, hv, cBin_lss, hlt, decide_true, cIf_eq, if_true, cIdxS_slice, idx?_nat hil, ob_some, Nat.zero_add, Nat.mul_one, cLoad1_ptr, ld1_eq, hc, asLK_int, H.ctx.cell m7, List.getElem?_cons_zero, asLK_any, e1]
    rw [cBin_add _ _ _ (by omega) (by omega)]
    simp only [loopK_normal]
    have F1' := F1.next
    refine ih (i + 1) f h1 _ (frS s o b0) fp1 (by omega) (by omega) (by omega) hl (H.step H1.rep F1) (F.trans (F1.toE he)) (by omega) (fun o ho' => by simp; exact ho o ho') (by omega) hS ?_ ?_ ?_ ?_ ?_ ?_
    all_goals simp [updL_cons, q42, q43, q13, q3, q7, hv]

theorem ev59_kids (X : Call) (B : Bx) {p : Pat} (hS : ∀ k ∈ p.kids, Spec61 X B k) (hg : GoodP p) (n lf : Nat) (hw : Pat.wtL p.kids ≤ n + 1) {N Q : Nat} {a b : Value} {j cap : Nat} {rest : List Value} {pins pins' : List (Nat × AObj)} {e : Nat} (hNe : N ≤ e) {h0 : AHeap} {fp0 : List Nat} (hc : ∀ x ∈ clos B Q, x ∈ pins')
    (a0 : Nat) (R : List Nat × List NS) (S : List NS) (x : Value) (K : KS)
    (kx : ∀ σ' h' fp' v', CtxO h' N Q 67 rest pins' R.2 fp' e R.1 v' → FrE e h0 h' fp0 fp' → e ≤ h'.next → (∀ o ∈ R.1, o < R.2.length) → a0 < R.2.length → σ' 8 = v' → σ' 1 = P0 B.b6 0 → σ' 3 = P0 B.b7 0 → σ' 7 = I a0 → GL N Q 67 rest pins e h0 fp0 S x (K (.exit 0) σ' h')) :
    ∀ (m i f : Nat) (h : AHeap) (σ : St) (outs : List Nat) (v : Value) (s : List NS) (fp : List Nat), p.kids.length - i = m → i ≤ p.kids.length → m < f → PatAt N h p a b (S0 j 0 p.kids.length cap) → CtxO h N Q 67 rest pins' s fp e outs v → FrE e h0 h fp0 fp → e ≤ h.next → (∀ o ∈ outs, o < s.length) → a0 < s.length →
    tot s + 8 * Pat.nodesL (p.kids.drop i) ≤ 1000000 → outs.length + (p.kids.length - i) < 1000000 → kidsP a0 (p.kids.drop i) outs s = R → σ 1 = P0 B.b6 0 → σ 2 = P0 B.b8 0 → σ 3 = P0 B.b7 0 → σ 19 = S0 j 0 p.kids.length cap → σ 20 = I p.kids.length → σ 21 = I i → σ 7 = I a0 → σ 8 = v →
    GL N Q 67 rest pins e h0 fp0 S x (loopS (g59_L1 (evF EK X (n + 1)) lf) f σ h K) := by
  intro m
  induction m with
  | zero =>
    intro i f h σ outs v s fp hm hi hf HP H F he ho ha ht hol hR q1 q2 q3 q19 q20 q21 q7 q8
    obtain ⟨f, rfl⟩ : ∃ q, f = q + 1 := ⟨f - 1, by omega⟩
    have hil : i = p.kids.length := by omega
    subst hil
    rw [List.drop_length] at hR
    unfold kidsP at hR
    subst hR
    rw [loopS_succ, g59_L1]
    simp only [q20, q21, cBin_lss, Int.lt_irrefl, decide_false, cIf_eq, Bool.false_eq_true, if_false, loopK_exit]
    exact kx _ h fp v H F he ho ha (by simp [updL_cons, q8]) (by simp [updL_cons, q1]) (by simp [updL_cons, q3]) (by simp [updL_cons, q7])
  | succ m ih =>
    intro i f h σ outs v s fp hm hi hf HP H F he ho ha ht hol hR q1 q2 q3 q19 q20 q21 q7 q8
    obtain ⟨f, rfl⟩ : ∃ q, f = q + 1 := ⟨f - 1, by omega⟩
    have hil : i < p.kids.length := by omega
    have hget : p.kids[i]? = some p.kids[i] := List.getElem?_eq_getElem hil
    have hdrop : p.kids.drop i = p.kids[i] :: p.kids.drop (i + 1) := List.drop_eq_getElem_cons hil
    generalize p.kids[i] = kd at hget hdrop
    rw [hdrop] at ht hR
    simp only [Pat.nodesL] at ht
    unfold kidsP at hR
    have hgk := hg.eq.2.2.at hget
    have hwk := Pat.wtL_at hget
    have hlies := layP_lies kd s hgk
    have hli := hlies.i
    have hlo := hlies.o
    have hlt := hlies.t
    obtain ⟨_, _, hz, hlen⟩ := HP.kidsSlc
    have htop : (p.kids.length : Int) ≤ 9223372036854775807 := by unfold top at hlen; omega
    obtain ⟨j', cap', kx', ky, kz, hce, _, _, hj, HK, hkx, hky, hkz, c0, c1, c2⟩ := HP.kid hget
    cases hce
    have hlt1 : ((i : Int) < (p.kids.length : Int)) := by omega
    have m7 := hc (B.b7, AObj.cells [F57 Q] 103 none false) (by simp [clos])
    have m8 := hc (B.b8, AObj.cells [F61 B Q] 104 none false) (by simp [clos])
    obtain ⟨h1, H1, F1, e1, l1⟩ := kid_box H.ctx kx' ky kz hkx hky hkz
    have HK1 := H.ctx.pat F1 HK
    have O1 := H.step H1.rep F1
    obtain ⟨h2, fp2, H2, F2, e2⟩ := (hS kd (List.mem_of_getElem? hget)).call (n + 1) HK1 hgk (by omega) H1 hc (by omega)
    have O2 := O1.step H2.rep F2
    obtain ⟨h3, fp3, H3, F3, e3⟩ := call_free X n H2 (by omega) (a := a0) (layP kd s).1 (by omega)
    have O3 := O2.step H3.rep F3
    have t3 := tot_frS (layP kd s).2.2 a0 (layP kd s).1
    have F13 := F1.trans (F2.trans F3)
    have n13 := F13.next
    obtain ⟨h4, v4, O4, F4, e4⟩ := O3.push (layP kd s).2.1 (by omega) (by omega)
    have n4 := F4.next
    rw [loopS_succ, g59_L1]
    simp only [q19, q20, q21, cBin_lss, hlt1, decide_true, cIf_eq, if_true, cIdxS_slice, idx?_nat hil, ob_some, Nat.zero_add, cLoadA_ptr, load_kid hkx hky hkz c0 c1 c2, cNew_eq, e1, l1, q2, cLoad1_ptr, ld1_eq, H1.cell m8, List.getElem?_cons_zero, asLK_any, e2, cExtract_eq, List.getElem?_cons_succ, List.toList_toArray, q3, H2.cell m7, q7, e3, q8, e4]
    rw [cBin_add _ _ _ (by omega) (by omega)]
    simp only [loopK_normal]
    refine ih (i + 1) f h4 _ (outs ++ [(layP kd s).2.1]) v4 (frS (layP kd s).2.2 a0 (layP kd s).1) fp3 (by omega) (by omega) (by omega) ?_ O4 (F.trans ((F13.toE he).trans F4)) (by omega) (fun o ho' => ?_) (by simp; omega) (by omega) (by simp; omega) hR ?_ ?_ ?_ ?_ ?_ ?_ ?_ ?_
    · have HP3 := H.ctx.pat F13 HP
      exact HP3.frame (fun t ht => F4.keep t (by omega) fun hm => by have := H3.low t hm; omega) _
    · rcases List.mem_append.1 ho' with q | q
      · have := ho o q; simp; omega
      · simp at q; subst q; simp; omega
    all_goals simp [updL_cons, q1, q2, q3, q19, q20, q7]
end Go.Amb
end

section
/- Automata being laid: one of several; a copy of classes. -/
set_option linter.unusedVariables false
set_option linter.unusedSimpArgs false
namespace Go.Amb
open Go.Proofs

theorem ev59 (X : Call) (B : Bx) {p : Pat} (hS : ∀ k ∈ p.kids, Spec61 X B k) (hop : p.op = 3) (n : Nat) {N Q : Nat} {h : AHeap} {a b c : Value} {rest : List Value} {pins : List (Nat × AObj)} {s : List NS} {fp : List Nat} (HP : PatAt N h p a b c) (hg : GoodP p) (hn : p.wt ≤ n + 4) (H : Ctx h N Q 67 rest pins s fp)
    (hc : ∀ x ∈ clos B Q, x ∈ pins) (ht : tot s + 8 * p.nodes ≤ 1000000) :
    ∃ h' fp', Ctx h' N Q 67 rest pins (layP p s).2.2 fp' ∧ Fr h h' fp fp' ∧ evF EK X (n + 1) 59 [.agg [a, b, c].toArray, P0 B.b6 0, P0 B.b8 0, P0 B.b7 0] h = some (.ret (.tuple #[I (layP p s).1, I (layP p s).2.1]) h') := by
  have hwt := p.wt_eq
  obtain ⟨n, rfl⟩ : ∃ q, n = q + 1 := ⟨n - 1, by omega⟩
  obtain ⟨ha, hb, _⟩ := HP.parts
  have hk2 := (good_kids hg).1 (.inr hop)
  have hget : p.kids[0]? = some p.kids[0] := List.getElem?_eq_getElem (by omega)
  generalize p.kids[0] = kd at hget
  have hnp := p.nodes_eq
  have hnl := Pat.nodesL_ge p.kids
  have hwl := Pat.wtL_ge p.kids
  have hlay : layP p s = (s.length, (kidsP s.length p.kids [] (newS s)).2.length, outsP (kidsP s.length p.kids [] (newS s)).2.length (kidsP s.length p.kids [] (newS s)).1 (newS (kidsP s.length p.kids [] (newS s)).2)) := by
    rw [layP_eq, if_neg (by omega), if_pos hop]
  obtain ⟨q1, q2, q3, _⟩ := kidsP_lies s.length p.kids [] (newS s) hg.eq.2.2
  simp only [List.length_nil, Nat.zero_add, length_newS] at q1 q2
  have tn := tot_newS s
  have H0 := H.new (.cells [a, b, c] 64 none false)
  have F0 := Fr.new h (.cells [a, b, c] 64 none false) fp
  have HP0 := H.pat F0 HP
  obtain ⟨j, cap, _, _, _, he, _⟩ := HP0.kid hget
  subst he ha
  have hc0 : ∀ x ∈ clos B Q, x ∈ (h.next, AObj.cells [I p.op, b, S0 j 0 p.kids.length cap] 64 none false) :: pins := fun x hx => List.mem_cons_of_mem _ (hc x hx)
  have m6 : (B.b6, AObj.cells [F56 Q] 58 none false) ∈ (h.next, AObj.cells [I p.op, b, S0 j 0 p.kids.length cap] 64 none false) :: pins := hc0 _ (by simp [clos])
  have m7 : (B.b7, AObj.cells [F57 Q] 103 none false) ∈ (h.next, AObj.cells [I p.op, b, S0 j 0 p.kids.length cap] 64 none false) :: pins := hc0 _ (by simp [clos])
  have mb : (h.next, AObj.cells [I p.op, b, S0 j 0 p.kids.length cap] 64 none false) ∈ (h.next, AObj.cells [I p.op, b, S0 j 0 p.kids.length cap] 64 none false) :: pins := List.mem_cons_self
  have hNe : N ≤ h.next := H.hn
  generalize hp : (h.next, AObj.cells [I p.op, b, S0 j 0 p.kids.length cap] 64 none false) :: pins = pins' at *
  rw [hlay]
  generalize hR : kidsP s.length p.kids [] (newS s) = R at *
  have hfin : GL N Q 67 rest pins h.next h fp (outsP R.2.length R.1 (newS R.2)) (.tuple #[I s.length, I R.2.length]) (evF EK X (n + 1 + 1) 59 [.agg [I p.op, b, S0 j 0 p.kids.length cap].toArray, P0 B.b6 0, P0 B.b8 0, P0 B.b7 0] h) := by
    rw [evF_B _ _ _ _ _ _ (by kernel_rfl), g59_eq, g59]
    obtain ⟨h1, fp1, H1, F1, e1⟩ := call_state X n H0 (by omega)
    simp only [st0_zero, st0_succ, cNew_eq, Value.cells, List.toList_toArray, cLoad1_ptr, ld1_eq, H0.cell m6, List.getElem?_cons_zero, List.getElem?_cons_succ, ob_some, asLK_any, e1, cFieldAddr_ptr, Nat.zero_add, H1.cell mb, asLK_slc, cLenS_eq]
    have F01 := F0.trans F1
    refine ev59_kids X B hS hg n (n + 1) (by omega) hNe hc0 s.length R _ _ _ ?_ p.kids.length 0 (n + 1) h1 _ [] nilS (newS s) fp1 (by omega) (by omega) (by omega) (H0.pat F1 HP0) (.inl ⟨rfl, rfl, H1⟩) (F01.toE (Nat.le_refl _)) F01.next (fun o ho => by cases ho) (by simp) (by rw [List.drop_zero]; omega) (by simp; omega) hR ?_ ?_ ?_ ?_ ?_ ?_ ?_ ?_
    · intro σ' h' fp' v' O F he ho ha q8 s1 s3 s7
      obtain ⟨h2, fp2, H2, F2, e2⟩ := call_state X n O.ctx (by omega)
      have tn2 := tot_newS R.2
      obtain ⟨va, vc, hv⟩ := O.slc
      have n2 := F2.next
      simp only [hBlk_same, hSeq_normal, g59_C2, s1, cLoad1_ptr, ld1_eq, O.ctx.cell m6, List.getElem?_cons_zero, ob_some, asLK_any, e2, q8, hv, cLenS_eq]
      rw [← hv]
      refine ev59_outs X B n (n + 1) m7 s.length R.2.length R.1 v' _ _ ?_ R.1.length 0 (n + 1) h2 _ (newS R.2) fp2 (by omega) (by omega) (by omega) (by omega) (O.step H2.rep F2) (F.trans (F2.toE he)) (by omega) (fun o h => by have := ho o h; simp; omega) (by omega) (by rw [List.drop_zero]) ?_ ?_ ?_ ?_ ?_ ?_
      · intro σ' h' fp' O F s7 s13
        refine ⟨h', fp', by have := O.ctx; rw [← hp] at this; exact this.drop, F, ?_⟩
        simp [g59_C4, updL_cons, s7, s13]
      all_goals simp [updL_cons, q8, s3, s7]
    all_goals simp [updL_cons]
  obtain ⟨h', fp', r1, r2, r3⟩ := hfin
  exact ⟨h', fp', r1, r2.toFr, r3⟩

/-! ### Classes -/
theorem eqNil52 (a : Option Addr) (l c : Nat) (f : K1) : cBin EK .eql 52 (.slice a l c) (.slice none 0 0) f = f (.bool a.isNone) := by kernel_rfl
theorem rises_length : ∀ (l : List Int) (q : Option Int), risesGo 64 q l = true → (match q with | none => True | some x => 0 ≤ x ∧ x < 64) → (l.length : Int) ≤ (match q with | none => 64 | some x => 63 - x) := by
  intro l
  induction l with
  | nil => intro q h hq; cases q with
    | none => simp
    | some x => simp only at hq ⊢; simp; omega
  | cons c l ih =>
    intro q h hq
    simp only [risesGo, Bool.and_eq_true, decide_eq_true_eq] at h
    obtain ⟨⟨⟨h1, h2⟩, h3⟩, h4⟩ := h
    have := ih (some c) h4 ⟨h1, h2⟩
    simp only at this
    cases q with
    | none => simp only [List.length_cons]; omega
    | some x => simp only [decide_eq_true_eq] at h3; simp only [List.length_cons]; omega
theorem ev54 (X : Call) (n : Nat) {N : Nat} {h : AHeap} {v : Value} {l : List Int} (H : IntsAt N h v l) (hN : N ≤ h.next) (hl : l.length ≤ 1000) :
    ∃ h' v' fc, evF EK X (n + 1) 54 [v] h = some (.ret v' h') ∧ h.next ≤ h'.next ∧ (∀ i, i < h.next → h'.get i = h.get i) ∧ ClsRep h' v' l fc ∧ (∀ i ∈ fc, h.next ≤ i ∧ i < h'.next) ∧ fc.Nodup ∧ (∃ a n c, v' = .slice a n c) ∧ eqV v' v' = true := by
  rw [evF_B _ _ _ _ _ _ (by kernel_rfl), g54_eq, g54]
  rcases H with ⟨rfl, rfl⟩ | ⟨i, c, e, rfl, h2, h3, h4, h5⟩
  · refine ⟨h, nilS, [], ?_, Nat.le_refl _, fun _ _ => rfl, .inl ⟨rfl, rfl, rfl⟩, fun i hi => (by cases hi), List.Pairwise.nil, ⟨_, _, _, rfl⟩, rfl⟩
    simp only [st0_zero, eqNil52, Option.isNone, cIf_eq, if_true]
    simp [updL_cons]
  · simp only [st0_zero, eqNil52, Option.isNone, cIf_eq, Bool.false_eq_true, if_false, cBuildS_eq, fillP_nil, ob_some, cAppend_eq]
    have hi : i < h.next := by omega
    have hg : (h.new (.cells [] 3 none false)).get i = .cells (ints l) e none true := by rw [get_new_lt _ hi]; exact h5
    rw [srcOf_row hg (by simp)]
    simp only [ob_some, Nat.mul_one, List.drop_zero]
    rw [List.take_of_length_le (by simp)]
    by_cases hz : l.length = 0
    · have : l = [] := List.eq_nil_of_length_eq_zero hz
      subst this
      refine ⟨h.new (.cells [] 3 none false), S0 h.next 0 0 0, [h.next], ?_, by simp, fun i hi => get_new_lt _ hi, .inr ⟨h.next, none, rfl, get_new_self _ _, rfl⟩, fun i hi => by simp at hi; subst hi; simp, by simp, ⟨_, _, _, rfl⟩, by simp [eqV, eqV1, eqAddr]⟩
      simp [app_zero, updL_cons]
    · have hb : (0 + l.length) * 8 ≤ AHeap.most := by simp only [AHeap.most]; omega
      rw [app_full (get_new_self h _) (by simp) (by omega) hz hb (by decide) (by decide)]
      refine ⟨(h.new (.cells [] 3 none false)).new (.cells (ints l) 3 (some 1) false), S0 (h.next + 1) 0 l.length l.length, [h.next + 1], ?_, ?_, fun i hi => ?_, .inr ⟨h.next + 1, some 1, rfl, ?_, rfl⟩, fun i hi => ?_, by simp, ⟨_, _, _, rfl⟩, by simp [eqV, eqV1, eqAddr]⟩
      · simp [updL_cons]
      · simp
        omega
      · rw [get_new_lt _ (by simp; omega), get_new_lt _ hi]
      · exact get_new_self (h.new (.cells [] 3 none false)) _
      · simp at hi; subst hi; simp
end Go.Amb
end

section
/- Automata being laid: of every good pattern. -/
set_option linter.unusedVariables false
set_option linter.unusedSimpArgs false
namespace Go.Amb
open Go.Proofs

theorem eqV_F56 (Q : Nat) : eqV (F56 Q) (F56 Q) = true := by simp [eqV, eqL1, eqV1, eqAddr]
theorem fillE {v : Value} (hv : ∃ a n c, v = .slice a n c) (t : Int) : fillP [(0, 1, v), (1, 1, I t)] [.slice none 0 0, .int .i64 0] = some [v, I t] := by
  obtain ⟨_, _, _, rfl⟩ := hv
  rfl
theorem fillE2 {v : Value} (t : Int) : fillP [(0, 2, .agg #[v, I t])] [.slice none 0 0, .int .i64 0] = some [v, I t] := by rfl

theorem ev61_leaf (X : Call) (B : Bx) {p : Pat} (hop : p.op = 0 ∨ p.op = 1) (n : Nat) {N Q : Nat} {h : AHeap} {a b c : Value} {bx : Nat} {rest : List Value} {pins pins' : List (Nat × AObj)} {s : List NS} {fp : List Nat} (HP : PatAt N h p a b c) (hg : GoodP p) (H : Ctx h N Q 67 rest pins' s fp)
    (hc : ∀ x ∈ clos B Q, x ∈ pins') (hbx : (bx, AObj.cells [a, b, c] 64 none false) ∈ pins') (hdrop : ∀ {h : AHeap} {s : List NS} {fp : List Nat}, Ctx h N Q 67 rest pins' s fp → Ctx h N Q 67 rest pins s fp) (ht : tot s + 8 * p.nodes ≤ 1000000) (σ : St) (q28 : σ 28 = .bool false) (q4 : σ 4 = P0 B.b6 0) (q5 : σ 5 = P0 B.b7 0) (q6 : σ 6 = P0 Q 0) (q7 : σ 7 = P0 bx 0) :
    ∃ h' fp', Ctx h' N Q 67 rest pins (layP p s).2.2 fp' ∧ Fr h h' fp fp' ∧ g61_C1 (evF EK X (n + 1)) (n + 1) σ h (finS EK [.tmp 8, .tmp 9]) = some (.ret (.tuple #[I (layP p s).1, I (layP p s).2.1]) h') := by
  obtain ⟨ha, hb, _⟩ := HP.parts
  subst ha
  obtain ⟨ba, bc, hbe, hbl⟩ := hb.slc
  have hnp := p.nodes_eq
  have hlay : layP p s = (s.length, s.length + 1, if p.op = 0 then frS (newS (newS s)) s.length (s.length + 1) else edS (newS (newS s)) s.length p.cls (s.length + 1)) := by
    rw [layP_eq, if_neg (by omega), if_neg (by omega), if_neg (by omega)]
  rw [hlay]
  have m6 := hc (B.b6, AObj.cells [F56 Q] 58 none false) (by simp [clos])
  have m7 := hc (B.b7, AObj.cells [F57 Q] 103 none false) (by simp [clos])
  have t1 := tot_newS s
  have t2 := tot_newS (newS s)
  obtain ⟨h1, fp1, H1, F1, e1⟩ := call_state X n H (by omega)
  obtain ⟨h2, fp2, H2, F2, e2⟩ := call_state X n H1 (by omega)
  have F12 := F1.trans F2
  rw [g61_C1]
  have ec : ((newS s).length : Int) = ((s.length + 1 : Nat) : Int) := by simp
  simp only [q28, cIf_eq, Bool.false_eq_true, if_false, q4, q5, q6, q7, cLoad1_ptr, ld1_eq, H.cell m6, H1.cell m6, List.getElem?_cons_zero, ob_some, asLK_any, rety_eq, dr_ret, e1, rk_ret (eqV_F56 Q), e2, cFieldAddr_ptr, Nat.zero_add, H2.cell hbx, asLK_int, cBin_eql, ec]
  have fin : ∀ (σ : St) (hh : AHeap), σ 10 = I s.length → σ 11 = I ((s.length + 1 : Nat) : Int) → g61_C2 (evF EK X (n + 1)) (n + 1) σ hh (finS EK [.tmp 8, .tmp 9]) = some (.ret (.tuple #[I s.length, I ((s.length + 1 : Nat) : Int)]) hh) := by
    intro σ hh s10 s11
    simp [g61_C2, updL_cons, s10, s11]
  by_cases e0 : p.op = 0
  · obtain ⟨h3, fp3, H3, F3, e3⟩ := call_free X n H2 (by omega) (a := s.length) (s.length + 1) (by simp; omega)
    simp only [e0, decide_true, if_true, cLoad1_ptr, ld1_eq, H2.cell m7, List.getElem?_cons_zero, ob_some, asLK_any, e3]
    exact ⟨h3, fp3, hdrop H3, F12.trans F3, fin _ _ (by simp [updL_cons]) (by simp [updL_cons])⟩
  · have e1' : p.op = 1 := by omega
    have hb2 := (H.pat F12 HP).parts.2.1
    have hcl := rises_length p.cls none hg.eq.2.1 trivial
    simp only at hcl
    obtain ⟨h3, v3, fc, k1, k2, k3, k4, k5, k6, k7, k8⟩ := ev54 X n hb2 H2.hn (by omega)
    have hE : EdgesRep (h3.new (.cells [v3, I ((s.length + 1 : Nat) : Int)] 106 none false)) (S0 h3.next 0 1 1) [(p.cls, ((s.length + 1 : Nat) : Int))] (h3.next :: fc) :=
      .inr ⟨p.cls, _, h3.next, v3, fc, rfl, rfl, get_new_self _ _, k4.frame fun i hi => get_new_lt _ (k5 i hi).2, rfl⟩
    have hs : (newS (newS s))[s.length]? = some ⟨[], []⟩ := by simp [newS]
    obtain ⟨S, cs, r1, r2, r3, r4, r5, r6, fp3, r7, r8⟩ := H2.rep.edge hs rfl hE (List.nodup_cons.2 ⟨fun hm => by have := (k5 _ hm).2; omega, k6⟩) (fun i hi => by
      rcases List.mem_cons.1 hi with rfl | hi
      · exact ⟨k2, by simp⟩
      · have := k5 i hi; exact ⟨this.1, by simp; omega⟩) (fun i hi => by rw [get_new_lt _ (by omega), k3 i hi]) (by simp; omega)
    have hl2 : (newS (newS s)).length = s.length + 2 := by simp
    rw [hl2] at r1 r2
    have g3Q : h3.get Q = .cells (S0 S 0 (s.length + 2) (s.length + 2) :: rest) 67 none false := by rw [k3 Q r6]; exact r1
    have g4Q : (h3.new (.cells [v3, I ((s.length + 1 : Nat) : Int)] 106 none false)).get Q = .cells (S0 S 0 (s.length + 2) (s.length + 2) :: rest) 67 none false := by rw [get_new_lt _ (by omega)]; exact g3Q
    have g4S : (h3.new (.cells [v3, I ((s.length + 1 : Nat) : Int)] 106 none false)).get S = .cells cs 102 (some 2) false := by rw [get_new_lt _ (by omega), k3 S r5]; exact r3
    have hst : (h3.new (.cells [v3, I ((s.length + 1 : Nat) : Int)] 106 none false)).st S (s.length * 2) [S0 h3.next 0 1 1] = some ((h3.new (.cells [v3, I ((s.length + 1 : Nat) : Int)] 106 none false)).set S (.cells (cs.set (s.length * 2) (S0 h3.next 0 1 1)) 102 (some 2) false)) := by
      rw [st_of g4S (by simp; omega) rfl, putL_one _ _ _ r4]
    have hx : idx? (s.length : Int) (s.length + 2) = some s.length := idx?_nat (by omega)
    simp only [e0, decide_false, Bool.false_eq_true, if_false, rety_eq, dr_ret, cell?_of r1, List.getElem?_cons_zero, List.getElem?_cons_succ, ob_some, asLK_slc, cFieldAddr_ptr, Nat.zero_add, cLoad1_ptr, ld1_eq, H2.cell hbx, hbe]
    rw [← hbe, cCall_ret k1]
    obtain ⟨va, vn, vc, hv⟩ := k7
    simp only [asRetL_one, asTIL_one]
    rw [hv] at k8
    simp only [hv, asLK_slc, dr_ret, rk_ret (eqV_int _), rk_ret (eqV_ptr _ _), rk_ret (eqV_S0 _ _ _ _), cLoad1_ptr, ld1_eq, cell?_of g3Q, List.getElem?_cons_zero, ob_some, rety_eq, cFieldAddr_ptr, Nat.zero_add, cBuild_eq, fillE ⟨va, vn, vc, rfl⟩, cBuildS_eq, fillE2]
    rw [← hv]
    simp only [cell?_of g4Q, List.getElem?_cons_zero, ob_some, asLK_slc, rk_ret (eqV_int _), rk_ret (eqV_ptr _ _), rk_ret (eqV_S0 _ _ _ _), cLoad1_ptr, ld1_eq, rety_eq, cFieldAddr_ptr, Nat.zero_add, dr_ret, cIdxS_slice, hx, Nat.add_zero, cStore_ptr, Value.cells, List.length_cons, List.length_nil, hst]
    exact ⟨_, fp3, hdrop (H2.step r7 r8), F12.trans r8, fin _ _ (by simp [updL_cons]) (by simp [updL_cons])⟩

theorem spec61 (X : Call) (B : Bx) : ∀ (m : Nat) (p : Pat), p.wt ≤ m → Spec61 X B p := by
  intro m
  induction m with
  | zero => intro p h; have := p.wt_eq; omega
  | succ m ih =>
    intro p hp n N Q h a b c rest pins s fp HP hg hn H hc ht
    have hwt := p.wt_eq
    obtain ⟨n, rfl⟩ : ∃ q, n = q + 1 := ⟨n - 1, by omega⟩
    obtain ⟨n, rfl⟩ : ∃ q, n = q + 1 := ⟨n - 1, by omega⟩
    have hS : ∀ kd ∈ p.kids, Spec61 X B kd := fun kd hk => ih kd (by
      obtain ⟨q, hq⟩ := List.mem_iff_getElem?.1 hk
      have := Pat.wtL_at hq
      omega)
    obtain ⟨ha, hb, _⟩ := HP.parts
    obtain ⟨ka, kc, hce, hkl⟩ := HP.kidsSlc
    obtain ⟨ba, bc, hbe, hbl⟩ := hb.slc
    subst ha
    have H0 := H.new (.cells [I p.op, b, c] 64 none false)
    have F0 := Fr.new h (.cells [I p.op, b, c] 64 none false) fp
    have HP0 := H.pat F0 HP
    have hc0 : ∀ x ∈ clos B Q, x ∈ (h.next, AObj.cells [I p.op, b, c] 64 none false) :: pins := fun x hx => List.mem_cons_of_mem _ (hc x hx)
    have m9 := hc0 (B.b9, AObj.cells [F58 B] 104 none false) (by simp [clos])
    have m10 := hc0 (B.b10, AObj.cells [F59 B] 104 none false) (by simp [clos])
    have m11 := hc0 (B.b11, AObj.cells [F60 B] 104 none false) (by simp [clos])
    have mb : (h.next, AObj.cells [I p.op, b, c] 64 none false) ∈ (h.next, AObj.cells [I p.op, b, c] 64 none false) :: pins := List.mem_cons_self
    have hdrop : ∀ {h1 : AHeap} {s : List NS} {fp : List Nat}, Ctx h1 N Q 67 rest ((h.next, AObj.cells [I p.op, b, c] 64 none false) :: pins) s fp → Ctx h1 N Q 67 rest pins s fp := fun x => x.drop
    have hbox : ∀ (R : Type) (f : List Value → Option R), (h.new (.cells [I p.op, b, c] 64 none false)).ldL h.next [.int .i64, .slc, .slc] 0 f = f [I p.op, b, c] := fun R f =>
      load_kid rfl ⟨_, _, _, hbe⟩ ⟨_, _, _, hce⟩ (by rw [H0.cell mb]; rfl) (by rw [H0.cell mb]; rfl) (by rw [H0.cell mb]; rfl)
    generalize hbx : h.next = bx at *
    generalize hpp : (bx, AObj.cells [I p.op, b, c] 64 none false) :: pins = pins' at *
    have hop := (good_kids hg).2.2
    rw [evF_B _ _ _ _ _ _ (by kernel_rfl), g61_eq, g61]
    simp only [st0_zero, st0_succ, cNew_eq, Value.cells, List.toList_toArray, hbx, cFieldAddr_ptr, Nat.zero_add, cLoad1_ptr, ld1_eq, H0.cell mb, List.getElem?_cons_zero, ob_some, asLK_int, cBin_eql]
    by_cases e2 : p.op = 2
    · simp only [decide_eq_true e2, cIf_eq, if_true, cLoad1_ptr, ld1_eq, H0.cell m11, List.getElem?_cons_zero, ob_some, asLK_any]
      obtain ⟨h1, fp1, r1, r2, r3⟩ := ev60 X B hS e2 n HP0 hg (by omega) H0 hc0 ht
      simp only [cLoadA_ptr, hbox, cCallV_func, c60, List.nil_append, List.cons_append]
      rw [cCall_ret r3]
      refine ⟨h1, fp1, hdrop r1, F0.trans r2, ?_⟩
      simp [updL_cons]
    · simp only [decide_eq_false e2, cIf_eq, Bool.false_eq_true, if_false]
      by_cases e3 : p.op = 3
      · simp only [decide_eq_true e3, cIf_eq, if_true, cLoad1_ptr, ld1_eq, H0.cell m10, List.getElem?_cons_zero, ob_some, asLK_any]
        obtain ⟨h1, fp1, r1, r2, r3⟩ := ev59 X B hS e3 n HP0 hg (by omega) H0 hc0 ht
        simp only [cLoadA_ptr, hbox, cCallV_func, c59, List.nil_append, List.cons_append]
        rw [cCall_ret r3]
        refine ⟨h1, fp1, hdrop r1, F0.trans r2, ?_⟩
        simp [updL_cons]
      · simp only [decide_eq_false e3, cIf_eq, Bool.false_eq_true, if_false]
        have loop : p.op = 4 ∨ p.op = 5 ∨ p.op = 6 → ∀ σ : St, σ 28 = .bool true → σ 3 = P0 B.b9 0 → σ 7 = P0 bx 0 →
            ∃ h' fp', Ctx h' N Q 67 rest pins (layP p s).2.2 fp' ∧ Fr h h' fp fp' ∧ g61_C1 (evF EK X (n + 1)) (n + 1) σ (h.new (.cells [I p.op, b, c] 64 none false)) (finS EK [.tmp 8, .tmp 9]) = some (.ret (.tuple #[I (layP p s).1, I (layP p s).2.1]) h') := by
          intro hl σ q28 q3 q7
          obtain ⟨h1, fp1, r1, r2, r3⟩ := ev58 X B hS hl n HP0 hg (by omega) H0 hc0 ht
          rw [g61_C1]
          simp only [q28, cIf_eq, if_true, q3, q7, cLoad1_ptr, ld1_eq, H0.cell m9, List.getElem?_cons_zero, ob_some, asLK_any, cLoadA_ptr, hbox, cCallV_func, c58, List.nil_append, List.cons_append]
          rw [cCall_ret r3]
          refine ⟨h1, fp1, hdrop r1, F0.trans r2, ?_⟩
          simp [updL_cons]
        by_cases e4 : p.op = 4
        · simp only [decide_eq_true e4, cIf_eq, if_true]
          exact loop (.inl e4) _ (by simp [updL_cons]) (by simp [updL_cons]) (by simp [updL_cons])
        · simp only [decide_eq_false e4, cIf_eq, Bool.false_eq_true, if_false]
          by_cases e5 : p.op = 5
          · simp only [decide_eq_true e5, cIf_eq, if_true]
            exact loop (.inr (.inl e5)) _ (by simp [updL_cons]) (by simp [updL_cons]) (by simp [updL_cons])
          · simp only [decide_eq_false e5, cIf_eq, Bool.false_eq_true, if_false]
            by_cases e6 : p.op = 6
            · simp only [decide_eq_true e6]
              exact loop (.inr (.inr e6)) _ (by simp [updL_cons]) (by simp [updL_cons]) (by simp [updL_cons])
            · simp only [decide_eq_false e6]
              refine exF (ev61_leaf X B (by omega) n HP0 hg H0 hc0 (by rw [← hpp]; exact List.mem_cons_self) hdrop ht _ ?_ ?_ ?_ ?_ ?_) fun h' fp' r1 r2 => ⟨r1, F0.trans r2⟩
              all_goals simp [updL_cons]
end Go.Amb
end
