/- Part of the proof by the abstract machine: no claim of its own. -/
import Derived.Test.YtnfncnchbogncaaRB
import Derived.Test.YtnfncnchbogncaaD2
import Derived.Test.YtnfncnchbogncaaD3
import Derived.Test.YtnfncnchbogncaaKA
set_option linter.unusedSimpArgs false
set_option linter.unusedVariables false
set_option linter.unnecessarySimpa false
set_option linter.unusedSectionVars false
section
/- Kleene: what an automaton laid of a pattern takes is what the pattern matches. -/
set_option linter.unusedVariables false
namespace Go.Amb

inductive Star {α : Type} (R : α → α → Prop) : α → α → Prop
  | refl (x : α) : Star R x x
  | step {x y z : α} (h : R x y) (t : Star R y z) : Star R x z
theorem Star.one {α : Type} {R : α → α → Prop} {x y : α} (h : R x y) : Star R x y := .step h (.refl _)
theorem Star.trans {α : Type} {R : α → α → Prop} {x y z : α} (a : Star R x y) (b : Star R y z) : Star R x z := by
  induction a with
  | refl x => exact b
  | step h t ih => exact .step h (ih b)
theorem Star.inv {α : Type} {R : α → α → Prop} {x z : α} (a : Star R x z) : x = z ∨ ∃ y, R x y ∧ Star R y z := by
  cases a with
  | refl => exact .inl rfl
  | step h t => exact .inr ⟨_, h, t⟩
theorem Star.mono {α : Type} {R S : α → α → Prop} (h : ∀ x y, R x y → S x y) {x y : α} (a : Star R x y) : Star S x y := by
  induction a with
  | refl x => exact .refl _
  | step g t ih => exact .step (h _ _ g) ih

/-! ### What a pattern matches -/
mutual
def Mt : Pat → List Int → Nat → Nat → Prop
  | .mk op cs ks, c, k, m =>
    if op = 1 then ∃ v, c[k]? = some v ∧ v ∈ cs ∧ m = k + 1
    else if op = 2 then MtSeq ks c k m
    else if op = 3 then MtAny ks c k m
    else if op = 4 then Star (MtHead ks c) k m
    else if op = 5 then ∃ j, MtHead ks c k j ∧ Star (MtHead ks c) j m
    else if op = 6 then k = m ∨ MtHead ks c k m
    else k = m
def MtSeq : List Pat → List Int → Nat → Nat → Prop
  | [], c, k, m => k = m
  | p :: ps, c, k, m => ∃ j, Mt p c k j ∧ MtSeq ps c j m
def MtAny : List Pat → List Int → Nat → Nat → Prop
  | [], c, k, m => False
  | p :: ps, c, k, m => Mt p c k m ∨ MtAny ps c k m
def MtHead : List Pat → List Int → Nat → Nat → Prop
  | [], c, k, m => False
  | p :: _, c, k, m => Mt p c k m
end
theorem Mt_eq (p : Pat) (c : List Int) (k m : Nat) : Mt p c k m = (if p.op = 1 then ∃ v, c[k]? = some v ∧ v ∈ p.cls ∧ m = k + 1
    else if p.op = 2 then MtSeq p.kids c k m else if p.op = 3 then MtAny p.kids c k m else if p.op = 4 then Star (MtHead p.kids c) k m
    else if p.op = 5 then ∃ j, MtHead p.kids c k j ∧ Star (MtHead p.kids c) j m else if p.op = 6 then k = m ∨ MtHead p.kids c k m else k = m) := by
  cases p with
  | mk op cs ks => rw [Mt]; rfl
theorem MtAny_iff (c : List Int) (k m : Nat) : ∀ ks, MtAny ks c k m ↔ ∃ p ∈ ks, Mt p c k m
  | [] => by simp [MtAny]
  | p :: ps => by simp [MtAny, MtAny_iff c k m ps]

/-! ### States -/
def nsA (s : List NS) (i : Nat) : NS := (s[i]?).getD ⟨[], []⟩
theorem nsA_out {s : List NS} {i : Nat} (h : s.length ≤ i) : nsA s i = ⟨[], []⟩ := by
  unfold nsA; rw [List.getElem?_eq_none h]; rfl
theorem nsA_newS (s : List NS) (i : Nat) : nsA (newS s) i = nsA s i := by
  unfold nsA newS
  by_cases h : i < s.length
  · rw [List.getElem?_append_left h]
  · rw [List.getElem?_append_right (by omega), List.getElem?_eq_none (show s.length ≤ i by omega)]
    by_cases e : i - s.length = 0
    · rw [e]; rfl
    · rw [List.getElem?_eq_none (by simp; omega)]
theorem get_setFree (l : List Int) : ∀ (s : List NS) (a i : Nat), (setFree s a l)[i]? = if i = a then (s[a]?).map (fun st => ⟨st.edges, l⟩) else s[i]? := by
  intro s
  induction s with
  | nil => intro a i; simp [setFree]
  | cons x s ih =>
    intro a i
    cases a with
    | zero => cases i with
      | zero => simp [setFree]
      | succ i => simp [setFree]
    | succ a => cases i with
      | zero => simp [setFree]
      | succ i => simp [setFree, ih a i]
theorem get_setEdges (l : List (List Int × Int)) : ∀ (s : List NS) (a i : Nat), (setEdges s a l)[i]? = if i = a then (s[a]?).map (fun st => ⟨l, st.free⟩) else s[i]? := by
  intro s
  induction s with
  | nil => intro a i; simp [setEdges]
  | cons x s ih =>
    intro a i
    cases a with
    | zero => cases i with
      | zero => simp [setEdges]
      | succ i => simp [setEdges]
    | succ a => cases i with
      | zero => simp [setEdges]
      | succ i => simp [setEdges, ih a i]
theorem nsA_frS_ne {s : List NS} {a t i : Nat} (h : i ≠ a) : nsA (frS s a t) i = nsA s i := by
  unfold frS
  cases e : s[a]? with
  | none => rfl
  | some st => simp only [nsA, get_setFree, if_neg h]
theorem nsA_frS {s : List NS} {a t : Nat} (h : a < s.length) : nsA (frS s a t) a = ⟨(nsA s a).edges, (nsA s a).free ++ [(t : Int)]⟩ := by
  unfold frS nsA
  have e := List.getElem?_eq_getElem h
  rw [e]
  simp only [get_setFree, e, if_true, Option.map_some, Option.getD_some]
theorem nsA_edS_ne {s : List NS} {a t i : Nat} {cs : List Int} (h : i ≠ a) : nsA (edS s a cs t) i = nsA s i := by
  unfold edS nsA
  rw [get_setEdges, if_neg h]
theorem nsA_edS {s : List NS} {a t : Nat} {cs : List Int} (h : a < s.length) : nsA (edS s a cs t) a = ⟨[(cs, (t : Int))], (nsA s a).free⟩ := by
  unfold edS nsA
  have e := List.getElem?_eq_getElem h
  rw [get_setEdges, if_pos rfl, e]
  rfl

/-! ### Steps and runs -/
def Stp (s : List NS) (c : List Int) (x y : Nat × Nat) : Prop :=
  ((y.1 : Int) ∈ (nsA s x.1).free ∧ y.2 = x.2) ∨ ∃ cls, (cls, (y.1 : Int)) ∈ (nsA s x.1).edges ∧ y.2 = x.2 + 1 ∧ ∃ v, c[x.2]? = some v ∧ v ∈ cls
theorem Stp.congr {s s' : List NS} {c : List Int} {x y : Nat × Nat} (h : nsA s' x.1 = nsA s x.1) : Stp s' c x y ↔ Stp s c x y := by unfold Stp; rw [h]
def StpO (s : List NS) (c : List Int) (o : Nat) (x y : Nat × Nat) : Prop := x.1 ≠ o ∧ Stp s c x y
abbrev Run (s : List NS) (c : List Int) (o : Nat) := Star (StpO s c o)
theorem Run.stop {s : List NS} {c : List Int} {o : Nat} {x z : Nat × Nat} (h : Run s c o x z) (e : x.1 = o) : z = x := by
  cases h with
  | refl => rfl
  | step g _ => exact absurd e g.1
def Cl (s : List NS) (lo hi : Nat) : Prop := ∀ x, lo ≤ x → x < hi → (∀ t ∈ (nsA s x).free, (lo : Int) ≤ t ∧ t < hi) ∧ ∀ e ∈ (nsA s x).edges, (lo : Int) ≤ e.2 ∧ e.2 < hi
theorem Cl.stp {s : List NS} {lo hi : Nat} (H : Cl s lo hi) {c : List Int} {x y : Nat × Nat} (h1 : lo ≤ x.1) (h2 : x.1 < hi) (h : Stp s c x y) : lo ≤ y.1 ∧ y.1 < hi := by
  obtain ⟨a, b⟩ := H x.1 h1 h2
  rcases h with ⟨h, _⟩ | ⟨cls, h, _⟩
  · have := a _ h; omega
  · have := b _ h; simp at this; omega
structure Frag (s : List NS) (c : List Int) (lo hi i o : Nat) (Q : Nat → Nat → Prop) : Prop where
  bi : lo ≤ i ∧ i < hi
  bo : lo ≤ o ∧ o < hi
  cl : ∀ x, lo ≤ x → x < hi → x ≠ o → ∀ k y, Stp s c (x, k) y → lo ≤ y.1 ∧ y.1 < hi
  run : ∀ k m, Run s c o (i, k) (o, m) ↔ Q k m
theorem Frag.move {s s' : List NS} {c : List Int} {lo hi o : Nat} (cl : ∀ x, lo ≤ x → x < hi → x ≠ o → ∀ k y, Stp s c (x, k) y → lo ≤ y.1 ∧ y.1 < hi) (h : ∀ x, lo ≤ x → x < hi → x ≠ o → nsA s' x = nsA s x) {x z : Nat × Nat} (r : Run s c o x z) : lo ≤ x.1 → x.1 < hi → Run s' c o x z := by
  induction r with
  | refl => intro _ _; exact .refl _
  | @step x y z g t ih =>
    intro h1 h2
    have := cl x.1 h1 h2 g.1 x.2 y g.2
    exact .step ⟨g.1, (Stp.congr (h x.1 h1 h2 g.1)).2 g.2⟩ (ih this.1 this.2)
theorem Frag.agree {s s' : List NS} {c : List Int} {lo hi i o : Nat} {Q : Nat → Nat → Prop} (F : Frag s c lo hi i o Q) (h : ∀ x, lo ≤ x → x < hi → x ≠ o → nsA s' x = nsA s x) : Frag s' c lo hi i o Q := by
  have cl' : ∀ x, lo ≤ x → x < hi → x ≠ o → ∀ k y, Stp s' c (x, k) y → lo ≤ y.1 ∧ y.1 < hi := fun x h1 h2 h3 k y g => F.cl x h1 h2 h3 k y ((Stp.congr (h x h1 h2 h3)).1 g)
  refine ⟨F.bi, F.bo, cl', fun k m => ?_⟩
  rw [← F.run k m]
  exact ⟨fun r => Frag.move cl' (fun x a b e => (h x a b e).symm) r F.bi.1 F.bi.2, fun r => Frag.move F.cl h r F.bi.1 F.bi.2⟩
theorem Frag.congr {s : List NS} {c : List Int} {lo hi i o : Nat} {Q Q' : Nat → Nat → Prop} (F : Frag s c lo hi i o Q) (h : ∀ k m, Q k m ↔ Q' k m) : Frag s c lo hi i o Q' := ⟨F.bi, F.bo, F.cl, fun k m => (F.run k m).trans (h k m)⟩
/-- A run within a part is a run of what is around. -/
theorem Frag.out {s : List NS} {c : List Int} {lo hi i o : Nat} {Q : Nat → Nat → Prop} (F : Frag s c lo hi i o Q) {o' : Nat} (ho : ¬ (lo ≤ o' ∧ o' < hi)) {x z : Nat × Nat} (r : Run s c o x z) : lo ≤ x.1 → x.1 < hi → Run s c o' x z := by
  induction r with
  | refl => intro _ _; exact .refl _
  | @step x y z g t ih =>
    intro h1 h2
    have := F.cl x.1 h1 h2 g.1 x.2 y g.2
    exact .step ⟨fun e => ho (by rw [← e]; exact ⟨h1, h2⟩), g.2⟩ (ih this.1 this.2)
structure Laid (c : List Int) (s s' : List NS) (i o : Nat) (Q : Nat → Nat → Prop) : Prop where
  len : s.length ≤ s'.length
  old : ∀ x, x < s.length → nsA s' x = nsA s x
  emp : nsA s' o = ⟨[], []⟩
  cl : Cl s' s.length s'.length
  fr : Frag s' c s.length s'.length i o Q
theorem Laid.congr {c : List Int} {s s' : List NS} {i o : Nat} {Q Q' : Nat → Nat → Prop} (L : Laid c s s' i o Q) (h : ∀ k m, Q k m ↔ Q' k m) : Laid c s s' i o Q' := ⟨L.len, L.old, L.emp, L.cl, L.fr.congr h⟩

/-! ### Leaves -/
theorem laid_empty (c : List Int) (s : List NS) : Laid c s (frS (newS (newS s)) s.length (s.length + 1)) s.length (s.length + 1) (fun k m => k = m) := by
  have ha : nsA (frS (newS (newS s)) s.length (s.length + 1)) s.length = ⟨[], [((s.length + 1 : Nat) : Int)]⟩ := by
    rw [nsA_frS (by simp; omega), nsA_newS, nsA_newS, nsA_out (Nat.le_refl _)]; rfl
  have hb : nsA (frS (newS (newS s)) s.length (s.length + 1)) (s.length + 1) = ⟨[], []⟩ := by
    rw [nsA_frS_ne (by omega), nsA_newS, nsA_newS, nsA_out (by omega)]
  have hl : (frS (newS (newS s)) s.length (s.length + 1)).length = s.length + 2 := by simp
  have cl : Cl (frS (newS (newS s)) s.length (s.length + 1)) s.length (frS (newS (newS s)) s.length (s.length + 1)).length := by
    intro x h1 h2
    rw [hl] at h2 ⊢
    rcases (show x = s.length ∨ x = s.length + 1 by omega) with rfl | rfl
    · rw [ha]; simp; omega
    · rw [hb]; simp
  refine ⟨by omega, fun x hx => ?_, hb, cl, ⟨by omega, by omega, fun x h1 h2 _ k y g => cl.stp h1 h2 g, fun k m => ⟨fun r => ?_, fun e => ?_⟩⟩⟩
  · rw [nsA_frS_ne (by omega), nsA_newS, nsA_newS]
  · rcases r.inv with e | ⟨y, g, t⟩
    · have e1 := congrArg Prod.fst e
      simp at e1
    · rcases g.2 with ⟨q1, q2⟩ | ⟨cls, q, _⟩
      · rw [ha] at q1
        simp at q1
        have e1 : y.1 = s.length + 1 := by omega
        have := Run.stop t e1
        rw [Prod.ext_iff] at this
        simp at this q2
        omega
      · rw [ha] at q; cases q
  · subst e
    exact Star.one ⟨by simp, .inl ⟨by rw [ha]; simp, rfl⟩⟩
theorem laid_set (c cs : List Int) (s : List NS) : Laid c s (edS (newS (newS s)) s.length cs (s.length + 1)) s.length (s.length + 1) (fun k m => ∃ v, c[k]? = some v ∧ v ∈ cs ∧ m = k + 1) := by
  have ha : nsA (edS (newS (newS s)) s.length cs (s.length + 1)) s.length = ⟨[(cs, ((s.length + 1 : Nat) : Int))], []⟩ := by
    rw [nsA_edS (by simp; omega), nsA_newS, nsA_newS, nsA_out (Nat.le_refl _)]
  have hb : nsA (edS (newS (newS s)) s.length cs (s.length + 1)) (s.length + 1) = ⟨[], []⟩ := by
    rw [nsA_edS_ne (by omega), nsA_newS, nsA_newS, nsA_out (by omega)]
  have hl : (edS (newS (newS s)) s.length cs (s.length + 1)).length = s.length + 2 := by simp
  have cl : Cl (edS (newS (newS s)) s.length cs (s.length + 1)) s.length (edS (newS (newS s)) s.length cs (s.length + 1)).length := by
    intro x h1 h2
    rw [hl] at h2 ⊢
    rcases (show x = s.length ∨ x = s.length + 1 by omega) with rfl | rfl
    · rw [ha]; simp; omega
    · rw [hb]; simp
  refine ⟨by omega, fun x hx => ?_, hb, cl, ⟨by omega, by omega, fun x h1 h2 _ k y g => cl.stp h1 h2 g, fun k m => ⟨fun r => ?_, fun ⟨v, e1, e2, e3⟩ => ?_⟩⟩⟩
  · rw [nsA_edS_ne (by omega), nsA_newS, nsA_newS]
  · rcases r.inv with e | ⟨y, g, t⟩
    · have e1 := congrArg Prod.fst e
      simp at e1
    · rcases g.2 with ⟨q1, q2⟩ | ⟨cls, q, q2, v, q3, q4⟩
      · rw [ha] at q1; simp at q1
      · rw [ha] at q
        simp at q
        have e1 : y.1 = s.length + 1 := by omega
        have := Run.stop t e1
        rw [Prod.ext_iff] at this
        simp at this q2 q3
        exact ⟨v, q3, by rw [← q.1]; exact q4, by omega⟩
  · subst e3
    exact Star.one ⟨by simp, .inr ⟨cs, by rw [ha]; simp, rfl, v, e1, e2⟩⟩

/-! ### One behind the other -/
theorem Laid.seq {c : List Int} {s s1 s2 : List NS} {i1 o1 i2 o2 : Nat} {Q1 Q2 : Nat → Nat → Prop} (L1 : Laid c s s1 i1 o1 Q1) (L2 : Laid c s1 s2 i2 o2 Q2) : Laid c s (frS s2 o1 i2) i1 o2 (fun k m => ∃ j, Q1 k j ∧ Q2 j m) := by
  have l1 := L1.len
  have l2 := L2.len
  have hi1 := L1.fr.bi
  have ho1 := L1.fr.bo
  have hi2 := L2.fr.bi
  have ho2 := L2.fr.bo
  have hl : (frS s2 o1 i2).length = s2.length := by simp
  have hns : ∀ x, x ≠ o1 → nsA (frS s2 o1 i2) x = nsA s2 x := fun x hx => nsA_frS_ne hx
  have hno : nsA (frS s2 o1 i2) o1 = ⟨[], [(i2 : Int)]⟩ := by rw [nsA_frS (by omega), L2.old _ ho1.2, L1.emp]; rfl
  generalize frS s2 o1 i2 = s3 at *
  have F1 : Frag s3 c s.length s1.length i1 o1 Q1 := L1.fr.agree fun x h1 h2 h3 => by rw [hns x h3, L2.old x h2]
  have F2 : Frag s3 c s1.length s2.length i2 o2 Q2 := L2.fr.agree fun x h1 h2 h3 => hns x (by omega)
  have cl : Cl s3 s.length s3.length := by
    intro x h1 h2
    rw [hl] at h2 ⊢
    by_cases hx : x = o1
    · subst hx; rw [hno]; simp; omega
    · rw [hns x hx]
      by_cases h3 : x < s1.length
      · rw [L2.old x h3]
        obtain ⟨a, b⟩ := L1.cl x h1 h3
        exact ⟨fun t ht => by have := a t ht; omega, fun e he => by have := b e he; omega⟩
      · obtain ⟨a, b⟩ := L2.cl x (by omega) h2
        exact ⟨fun t ht => by have := a t ht; omega, fun e he => by have := b e he; omega⟩
  refine ⟨by omega, fun x hx => by rw [hns x (by omega), L2.old x (by omega), L1.old x hx], by rw [hns o2 (by omega)]; exact L2.emp, cl, ⟨by omega, by omega, fun x h1 h2 _ k y g => cl.stp h1 h2 g, fun k m => ?_⟩⟩
  have key : ∀ (x z : Nat × Nat), Run s3 c o2 x z → z.1 = o2 → s.length ≤ x.1 → x.1 < s1.length → ∃ j, Run s3 c o1 x (o1, j) ∧ Run s3 c o2 (i2, j) z := by
    intro x z r
    induction r with
    | refl x => intro e h1 h2; omega
    | @step x y z g t ih =>
      intro e h1 h2
      by_cases hx : x.1 = o1
      · rcases g.2 with ⟨q1, q2⟩ | ⟨cls, q, _⟩
        · rw [hx, hno] at q1
          simp at q1
          have : y = (i2, x.2) := Prod.ext (by simp; omega) q2
          subst this
          exact ⟨x.2, by rw [← hx]; exact .refl _, t⟩
        · rw [hx, hno] at q; cases q
      · have := F1.cl x.1 h1 h2 hx x.2 y g.2
        obtain ⟨j, a, b⟩ := ih e this.1 this.2
        exact ⟨j, .step ⟨hx, g.2⟩ a, b⟩
  constructor
  · intro r
    obtain ⟨j, a, b⟩ := key _ _ r rfl hi1.1 hi1.2
    exact ⟨j, (F1.run _ _).1 a, (F2.run _ _).1 b⟩
  · rintro ⟨j, a, b⟩
    have r1 := F1.out (o' := o2) (by omega) ((F1.run _ _).2 a) hi1.1 hi1.2
    refine r1.trans (.step (y := (i2, j)) ⟨by simp; omega, .inl ⟨?_, rfl⟩⟩ ((F2.run _ _).2 b))
    show (i2 : Int) ∈ (nsA s3 o1).free
    rw [hno]; simp
end Go.Amb
end

section
/- Kleene: again and again; one of several; the whole. -/
set_option linter.unusedVariables false
namespace Go.Amb

/-! ### A state, a part, a state -/
theorem Laid.loop {c : List Int} {s s1 : List NS} {i o : Nat} {Q : Nat → Nat → Prop} (op : Int) (L : Laid c (newS s) s1 i o Q) :
    Laid c s (tieP op s.length i o s1.length (newS s1)) s.length s1.length
      (fun k m => (op ≠ 5 ∧ k = m) ∨ ∃ j, Q k j ∧ (j = m ∨ (op ≠ 6 ∧ Star Q j m))) := by
  have l1 := L.len
  have hi := L.fr.bi
  have ho := L.fr.bo
  simp only [length_newS] at l1 hi ho
  have hl : (tieP op s.length i o s1.length (newS s1)).length = s1.length + 1 := by simp
  -- what stands where
  have e0 : ∀ x, nsA (newS s1) x = nsA s1 x := nsA_newS s1
  have ea0 : nsA s1 s.length = ⟨[], []⟩ := by rw [L.old _ (by simp), nsA_newS, nsA_out (Nat.le_refl _)]
  have hns : ∀ x, x ≠ s.length → x ≠ o → nsA (tieP op s.length i o s1.length (newS s1)) x = nsA s1 x := by
    intro x h1 h2
    unfold tieP tie3 tie2
    rw [nsA_frS_ne h2, ← e0 x]
    split <;> split <;> simp only [nsA_frS_ne h1, nsA_frS_ne h2]
  have hna : ∃ f, nsA (tieP op s.length i o s1.length (newS s1)) s.length = ⟨[], f⟩ ∧ ∀ t, t ∈ f ↔ (t = (i : Int) ∨ (op ≠ 5 ∧ t = (s1.length : Int))) := by
    unfold tieP tie3 tie2
    rw [nsA_frS_ne (by omega)]
    by_cases h5 : op = 5
    · rw [if_pos h5]
      have h6 : op ≠ 6 := by omega
      rw [if_neg h6, nsA_frS_ne (by omega), nsA_frS (by simp; omega), e0, ea0]
      exact ⟨_, rfl, fun t => by simp [h5]⟩
    · rw [if_neg h5]
      refine ⟨[(i : Int), (s1.length : Int)], ?_, fun t => by simp [h5]⟩
      split
      · rw [nsA_frS (by simp; omega), nsA_frS (by simp; omega), e0, ea0]; rfl
      · rw [nsA_frS_ne (by omega), nsA_frS (by simp; omega), nsA_frS (by simp; omega), e0, ea0]; rfl
  have hno : ∃ f, nsA (tieP op s.length i o s1.length (newS s1)) o = ⟨[], f⟩ ∧ ∀ t, t ∈ f ↔ (t = (s1.length : Int) ∨ (op ≠ 6 ∧ t = (i : Int))) := by
    unfold tieP tie3 tie2
    have e2 : ∀ S : List NS, nsA (if op = 5 then frS S s.length i else frS (frS S s.length i) s.length s1.length) o = nsA S o := by
      intro S; split <;> simp only [nsA_frS_ne (show o ≠ s.length by omega)]
    have e2' : nsA (if op = 5 then frS (newS s1) s.length i else frS (frS (newS s1) s.length i) s.length s1.length) o = ⟨[], []⟩ := by rw [e2, e0, L.emp]
    by_cases h6 : op = 6
    · simp only [if_pos h6]
      rw [nsA_frS (by split <;> simp <;> omega), e2']
      exact ⟨_, rfl, fun t => by simp [h6]⟩
    · simp only [if_neg h6]
      rw [nsA_frS (by simp only [length_frS]; split <;> simp <;> omega), nsA_frS (by split <;> simp <;> omega), e2']
      exact ⟨_, rfl, fun t => by simp [h6, or_comm]⟩
  generalize tieP op s.length i o s1.length (newS s1) = s3 at *
  obtain ⟨fa, hna, ma⟩ := hna
  obtain ⟨fo, hno, mo⟩ := hno
  have F : Frag s3 c (s.length + 1) s1.length i o Q := by
    have := L.fr
    simp only [length_newS] at this
    exact this.agree fun x h1 h2 h3 => hns x (by omega) h3
  have hb : nsA s3 s1.length = ⟨[], []⟩ := by rw [hns _ (by omega) (by omega), nsA_out (Nat.le_refl _)]
  have cl : Cl s3 s.length s3.length := by
    intro x h1 h2
    rw [hl] at h2 ⊢
    by_cases hxa : x = s.length
    · subst hxa; rw [hna]
      exact ⟨fun t ht => by rcases (ma t).1 ht with rfl | ⟨_, rfl⟩ <;> omega, fun e he => by cases he⟩
    · by_cases hxo : x = o
      · subst hxo; rw [hno]
        exact ⟨fun t ht => by rcases (mo t).1 ht with rfl | ⟨_, rfl⟩ <;> omega, fun e he => by cases he⟩
      · rw [hns x hxa hxo]
        by_cases h3 : x < s1.length
        · obtain ⟨a, b⟩ := L.cl x (by simp; omega) h3
          exact ⟨fun t ht => by have := a t ht; simp at this; omega, fun e he => by have := b e he; simp at this; omega⟩
        · rw [nsA_out (by omega)]; simp
  refine ⟨by omega, fun x hx => by rw [hns x (by omega) (by omega), L.old x (by simp; omega), nsA_newS], hb, cl, ⟨by omega, by omega, fun x h1 h2 _ k y g => cl.stp h1 h2 g, fun k m => ?_⟩⟩
  have key : ∀ (x z : Nat × Nat), Run s3 c s1.length x z → z.1 = s1.length → s.length + 1 ≤ x.1 → x.1 < s1.length → ∃ j, Run s3 c o x (o, j) ∧ (j = z.2 ∨ (op ≠ 6 ∧ Star Q j z.2)) := by
    intro x z r
    induction r with
    | refl x => intro e h1 h2; omega
    | @step x y z g t ih =>
      intro e h1 h2
      by_cases hx : x.1 = o
      · rcases g.2 with ⟨q1, q2⟩ | ⟨cls, q, _⟩
        · rw [hx, hno] at q1
          have hxx : Run s3 c o x (o, x.2) := by rw [← hx]; exact .refl _
          rcases (mo _).1 q1 with q | ⟨h6, q⟩
          · have e1 : y.1 = s1.length := by omega
            have e2 := Run.stop t e1
            rw [e2, q2]
            exact ⟨x.2, hxx, .inl rfl⟩
          · have : y = (i, x.2) := Prod.ext (by simp; omega) q2
            obtain ⟨j, a, b⟩ := ih e (by omega) (by omega)
            rw [this] at a
            refine ⟨x.2, hxx, .inr ⟨h6, .step ((F.run _ _).1 a) ?_⟩⟩
            rcases b with b | ⟨_, b⟩
            · rw [b]; exact .refl _
            · exact b
        · rw [hx, hno] at q; cases q
      · have := F.cl x.1 h1 h2 hx x.2 y g.2
        obtain ⟨j, a, b⟩ := ih e this.1 this.2
        exact ⟨j, .step ⟨hx, g.2⟩ a, b⟩
  have toO : ∀ k j, Q k j → Run s3 c s1.length (i, k) (o, j) := fun k j q => F.out (by omega) ((F.run _ _).2 q) hi.1 hi.2
  have last : ∀ j, Run s3 c s1.length (o, j) (s1.length, j) := fun j => Star.one ⟨by simp; omega, .inl ⟨by show (s1.length : Int) ∈ (nsA s3 o).free; rw [hno]; exact (mo _).2 (.inl rfl), rfl⟩⟩
  have again : ∀ j m, op ≠ 6 → Star Q j m → Run s3 c s1.length (o, j) (s1.length, m) := by
    intro j m h6 r
    induction r with
    | refl j => exact last j
    | @step x y z g t ih => exact .step (y := (i, x)) ⟨by simp; omega, .inl ⟨by show (i : Int) ∈ (nsA s3 o).free; rw [hno]; exact (mo _).2 (.inr ⟨h6, rfl⟩), rfl⟩⟩ ((toO x y g).trans ih)
  constructor
  · intro r
    rcases r.inv with e | ⟨y, g, t⟩
    · have := congrArg Prod.fst e; simp at this; omega
    · rcases g.2 with ⟨q1, q2⟩ | ⟨cls, q, _⟩
      · rw [show nsA s3 (s.length, k).1 = _ from hna] at q1
        rcases (ma _).1 q1 with q | ⟨h5, q⟩
        · have : y = (i, k) := Prod.ext (by simp; omega) q2
          subst this
          obtain ⟨j, a, b⟩ := key _ _ t rfl hi.1 hi.2
          exact .inr ⟨j, (F.run _ _).1 a, b⟩
        · have e2 := Run.stop t (show y.1 = s1.length by omega)
          have : m = y.2 := congrArg Prod.snd e2
          exact .inl ⟨h5, by rw [this, q2]⟩
      · rw [show nsA s3 (s.length, k).1 = _ from hna] at q; cases q
  · rintro (⟨h5, rfl⟩ | ⟨j, a, b⟩)
    · exact Star.one ⟨by simp; omega, .inl ⟨by show (s1.length : Int) ∈ (nsA s3 s.length).free; rw [hna]; exact (ma _).2 (.inr ⟨h5, rfl⟩), rfl⟩⟩
    · refine .step (y := (i, k)) ⟨by simp; omega, .inl ⟨by show (i : Int) ∈ (nsA s3 s.length).free; rw [hna]; exact (ma _).2 (.inl rfl), rfl⟩⟩ ((toO k j a).trans ?_)
      rcases b with rfl | ⟨h6, b⟩
      · exact last j
      · exact again j m h6 b

/-! ### One of several -/
abbrev Part := Nat × Nat × (Nat → Nat → Prop)
def KidsOk (s : List NS) (c : List Int) (n : Nat) : Nat → List Part → Prop
  | lo, [] => lo ≤ n
  | lo, x :: r => ∃ lo' hi, lo ≤ lo' ∧ Frag s c lo' hi x.1 x.2.1 x.2.2 ∧ nsA s x.2.1 = ⟨[], []⟩ ∧ KidsOk s c n hi r
theorem KidsOk.le {s : List NS} {c : List Int} {n : Nat} : ∀ {l : List Part} {lo : Nat}, KidsOk s c n lo l → lo ≤ n := by
  intro l
  induction l with
  | nil => intro lo h; exact h
  | cons z l ih => intro lo ⟨a, b, h1, F, _, h2⟩; have := ih h2; have := F.bi; omega
theorem KidsOk.mem {s : List NS} {c : List Int} {n : Nat} : ∀ {l : List Part} {lo : Nat}, KidsOk s c n lo l → (∀ x ∈ l, lo ≤ x.2.1) ∧ ∀ x ∈ l, ∃ a b, lo ≤ a ∧ b ≤ n ∧ Frag s c a b x.1 x.2.1 x.2.2 ∧ nsA s x.2.1 = ⟨[], []⟩ ∧ ∀ y ∈ l, a ≤ y.2.1 → y.2.1 < b → y.2.1 = x.2.1 := by
  intro l
  induction l with
  | nil => intro lo _; simp
  | cons z l ih =>
    intro lo ⟨lo', hi, h0, F, he, hr⟩
    obtain ⟨q1, q2⟩ := ih hr
    have hle := hr.le
    have b1 := F.bo
    have b2 := F.bi
    refine ⟨fun x hx => ?_, fun x hx => ?_⟩
    · rcases List.mem_cons.1 hx with rfl | hx
      · omega
      · have := q1 x hx; omega
    · rcases List.mem_cons.1 hx with rfl | hx
      · refine ⟨lo', hi, h0, hle, F, he, fun y hy h1 h2 => ?_⟩
        rcases List.mem_cons.1 hy with rfl | hy
        · rfl
        · have := q1 y hy; omega
      · obtain ⟨a, b, h1, h2, G, h3, h4⟩ := q2 x hx
        refine ⟨a, b, by omega, h2, G, h3, fun y hy g1 g2 => ?_⟩
        rcases List.mem_cons.1 hy with rfl | hy
        · omega
        · exact h4 y hy g1 g2
theorem KidsOk.agree {s s' : List NS} {c : List Int} {n : Nat} : ∀ {l : List Part} {lo : Nat}, KidsOk s c n lo l → (∀ x, lo ≤ x → x < n → nsA s' x = nsA s x) → KidsOk s' c n lo l := by
  intro l
  induction l with
  | nil => intro lo h _; exact h
  | cons z l ih =>
    intro lo ⟨a, b, h1, F, he, h2⟩ k
    have := h2.le
    have b1 := F.bo
    exact ⟨a, b, h1, F.agree fun x q1 q2 _ => k x (by omega) (by omega), by rw [k _ (by omega) (by omega)]; exact he, ih h2 fun x q1 q2 => k x (by omega) q2⟩
theorem KidsOk.snoc {s : List NS} {c : List Int} {n m : Nat} {x : Part} (F : Frag s c n m x.1 x.2.1 x.2.2) (he : nsA s x.2.1 = ⟨[], []⟩) : ∀ {l : List Part} {lo : Nat}, KidsOk s c n lo l → KidsOk s c m lo (l ++ [x]) := by
  intro l
  induction l with
  | nil => intro lo h; exact ⟨n, m, h, F, he, Nat.le_refl _⟩
  | cons z l ih => intro lo ⟨a, b, h1, G, e, h2⟩; exact ⟨a, b, h1, G, e, ih h2⟩

theorem outsP_ns (b : Nat) : ∀ (l : List Nat) (s : List NS), (∀ x ∈ l, x < s.length) → ∀ x, (nsA (outsP b l s) x).edges = (nsA s x).edges ∧ (∀ t, t ∈ (nsA (outsP b l s) x).free ↔ t ∈ (nsA s x).free ∨ (t = (b : Int) ∧ x ∈ l)) := by
  intro l
  induction l with
  | nil => intro s _ x; simp [outsP]
  | cons o l ih =>
    intro s h x
    obtain ⟨h1, h2⟩ := ih (frS s o b) (fun y hy => by simp; exact h y (by simp [hy])) x
    simp only [outsP]
    by_cases e : x = o
    · subst e
      rw [nsA_frS (h x (by simp))] at h1 h2
      exact ⟨h1, fun t => by rw [h2 t]; simp only [List.mem_append, List.mem_singleton, List.mem_cons, true_or, and_true]; constructor <;> intro hh <;> rcases hh with hh | hh <;> simp_all⟩
    · rw [nsA_frS_ne e] at h1 h2
      exact ⟨h1, fun t => by rw [h2 t]; simp [e]⟩
theorem outsP_ne (b : Nat) : ∀ (l : List Nat) (s : List NS) (x : Nat), x ∉ l → nsA (outsP b l s) x = nsA s x := by
  intro l
  induction l with
  | nil => intro s x _; rfl
  | cons o l ih =>
    intro s x h
    simp only [outsP]
    rw [ih _ x (fun hx => h (by simp [hx])), nsA_frS_ne (fun e => h (by simp [e]))]

/-- What kids laid look like. -/
structure KidsL (c : List Int) (a : Nat) (s0 s : List NS) (l : List Part) : Prop where
  len : a < s.length
  ok : KidsOk s c s.length (a + 1) l
  old : ∀ x, x < a → nsA s x = nsA s0 x
  ins : nsA s a = ⟨[], l.map fun x => (x.1 : Int)⟩
  cl : Cl s a s.length
theorem KidsL.push {c : List Int} {a : Nat} {s0 s s1 : List NS} {l : List Part} (K : KidsL c a s0 s l) {i o : Nat} {Q : Nat → Nat → Prop} (L : Laid c s s1 i o Q) : KidsL c a s0 (frS s1 a i) (l ++ [(i, o, Q)]) := by
  have k := K.len
  have l1 := L.len
  have hi := L.fr.bi
  have ho := L.fr.bo
  have hns : ∀ x, x ≠ a → nsA (frS s1 a i) x = nsA s1 x := fun x hx => nsA_frS_ne hx
  have hna : nsA (frS s1 a i) a = ⟨[], (l ++ [(i, o, Q)]).map fun x => (x.1 : Int)⟩ := by
    rw [nsA_frS (by omega), L.old a k, K.ins]; simp
  have hl : (frS s1 a i).length = s1.length := by simp
  generalize frS s1 a i = s2 at *
  refine ⟨by omega, ?_, fun x hx => by rw [hns x (by omega), L.old x (by omega), K.old x hx], hna, fun x h1 h2 => ?_⟩
  · rw [hl]
    refine KidsOk.snoc (n := s.length) (L.fr.agree fun x h1 h2 h3 => hns x (by omega)) (by simp only; rw [hns o (by omega)]; exact L.emp) (K.ok.agree fun x h1 h2 => ?_)
    rw [hns x (by omega), L.old x h2]
  · rw [hl] at h2 ⊢
    by_cases hx : x = a
    · subst hx
      have hK := (K.cl x h1 k).1
      rw [K.ins] at hK
      rw [hna]
      refine ⟨fun t ht => ?_, fun e he => by cases he⟩
      simp only [List.map_append, List.mem_append, List.map_cons, List.map_nil, List.mem_singleton] at ht
      rcases ht with ht | rfl
      · have := hK t ht; omega
      · omega
    · rw [hns x hx]
      by_cases h3 : x < s.length
      · rw [L.old x h3]
        obtain ⟨p, q⟩ := K.cl x h1 h3
        exact ⟨fun t ht => by have := p t ht; omega, fun e he => by have := q e he; omega⟩
      · obtain ⟨p, q⟩ := L.cl x (by omega) h2
        exact ⟨fun t ht => by have := p t ht; omega, fun e he => by have := q e he; omega⟩
theorem KidsL.start (c : List Int) (s : List NS) : KidsL c s.length s (newS s) [] := by
  have h : nsA (newS s) s.length = ⟨[], []⟩ := by rw [nsA_newS, nsA_out (Nat.le_refl _)]
  refine ⟨by simp, by show s.length + 1 ≤ (newS s).length; simp, fun x hx => nsA_newS s x, h, fun x h1 h2 => ?_⟩
  have : x = s.length := by simp at h2; omega
  subst this
  rw [h]; simp
theorem KidsL.close {c : List Int} {s0 s : List NS} {l : List Part} (K : KidsL c s0.length s0 s l) :
    Laid c s0 (outsP s.length (l.map fun x => x.2.1) (newS s)) s0.length s.length (fun k m => ∃ x ∈ l, x.2.2 k m) := by
  have k := K.len
  obtain ⟨g1, g2⟩ := K.ok.mem
  have hlt : ∀ x ∈ l, x.2.1 < s.length := fun x hx => by
    obtain ⟨a, b, h1, h2, F, _⟩ := g2 x hx
    have := F.bo; omega
  have hol : ∀ y ∈ l.map (fun x => x.2.1), y < (newS s).length := fun y hy => by
    obtain ⟨x, hx, rfl⟩ := List.mem_map.1 hy
    have := hlt x hx; simp; omega
  have hog : ∀ y ∈ l.map (fun x => x.2.1), s0.length + 1 ≤ y := fun y hy => by
    obtain ⟨x, hx, rfl⟩ := List.mem_map.1 hy
    exact g1 x hx
  have hns := outsP_ns s.length (l.map fun x => x.2.1) (newS s) hol
  have hne : ∀ x, x ∉ l.map (fun x => x.2.1) → nsA (outsP s.length (l.map fun x => x.2.1) (newS s)) x = nsA s x := fun x hx => by
    rw [outsP_ne _ _ _ _ hx, nsA_newS]
  have hl : (outsP s.length (l.map fun x => x.2.1) (newS s)).length = s.length + 1 := by simp
  simp only [nsA_newS] at hns
  have hna : nsA (outsP s.length (l.map fun x => x.2.1) (newS s)) s0.length = ⟨[], l.map fun x => (x.1 : Int)⟩ := by
    rw [hne _ (fun hm => by have := hog _ hm; omega)]; exact K.ins
  have hnb : nsA (outsP s.length (l.map fun x => x.2.1) (newS s)) s.length = ⟨[], []⟩ := by
    rw [hne _ (fun hm => by
      obtain ⟨x, hx, e⟩ := List.mem_map.1 hm
      have := hlt x hx; omega), nsA_out (Nat.le_refl _)]
  generalize outsP s.length (l.map fun x => x.2.1) (newS s) = s3 at *
  have cl : Cl s3 s0.length s3.length := by
    intro x h1 h2
    rw [hl] at h2 ⊢
    obtain ⟨e1, e2⟩ := hns x
    rw [e1]
    by_cases hx : x < s.length
    · obtain ⟨p, q⟩ := K.cl x h1 hx
      refine ⟨fun t ht => ?_, fun e he => by have := q e he; omega⟩
      rcases (e2 t).1 ht with ht | ⟨rfl, _⟩
      · have := p t ht; omega
      · omega
    · have : x = s.length := by omega
      subst this
      rw [hnb, nsA_out (Nat.le_refl _)]; simp
  have part : ∀ x ∈ l, ∃ a b, s0.length + 1 ≤ a ∧ b ≤ s.length ∧ Frag s3 c a b x.1 x.2.1 x.2.2 ∧ (∀ t, t ∈ (nsA s3 x.2.1).free ↔ t = (s.length : Int)) ∧ (nsA s3 x.2.1).edges = [] := by
    intro x hx
    obtain ⟨a, b, h1, h2, F, he, hu⟩ := g2 x hx
    refine ⟨a, b, h1, h2, F.agree fun y q1 q2 q3 => hne y fun hm => ?_, fun t => ?_, ?_⟩
    · obtain ⟨z, hz, e⟩ := List.mem_map.1 hm
      subst e
      exact q3 (hu z hz q1 q2)
    · rw [(hns x.2.1).2 t, he]
      have : x.2.1 ∈ l.map (fun x => x.2.1) := List.mem_map.2 ⟨x, hx, rfl⟩
      simp [this]
    · rw [(hns x.2.1).1, he]
  refine ⟨by omega, fun x hx => by rw [hne x (fun hm => by have := hog _ hm; omega), K.old x hx], hnb, cl, ⟨by omega, by omega, fun x h1 h2 _ k y g => cl.stp h1 h2 g, fun k m => ?_⟩⟩
  constructor
  · intro r
    rcases r.inv with e | ⟨y, g, t⟩
    · have := congrArg Prod.fst e; simp at this; omega
    · rcases g.2 with ⟨q1, q2⟩ | ⟨cls, q, _⟩
      · rw [show nsA s3 (s0.length, k).1 = _ from hna] at q1
        simp only [List.mem_map] at q1
        obtain ⟨z, hz, ez⟩ := q1
        refine ⟨z, hz, ?_⟩
        obtain ⟨a, b, h1, h2, F, ho, ho2⟩ := part z hz
        have : y = (z.1, k) := Prod.ext (by simp; omega) q2
        subst this
        refine (F.run _ _).1 ?_
        have key : ∀ (x w : Nat × Nat), Run s3 c s.length x w → w.1 = s.length → a ≤ x.1 → x.1 < b → Run s3 c z.2.1 x (z.2.1, w.2) := by
          intro x w r
          induction r with
          | refl x => intro e h1 h2; omega
          | @step x y w g t ih =>
            intro e h1 h2
            by_cases hx : x.1 = z.2.1
            · rcases g.2 with ⟨q1, q2⟩ | ⟨cls, q, _⟩
              · rw [hx] at q1
                have := (ho _).1 q1
                have e2 := Run.stop t (show y.1 = s.length by omega)
                rw [e2, q2, ← hx]
                exact .refl _
              · rw [hx, ho2] at q; cases q
            · have := F.cl x.1 h1 h2 hx x.2 y g.2
              exact .step ⟨hx, g.2⟩ (ih e this.1 this.2)
        have := F.bi
        exact key _ _ t rfl this.1 this.2
      · rw [show nsA s3 (s0.length, k).1 = _ from hna] at q; cases q
  · rintro ⟨z, hz, q⟩
    obtain ⟨a, b, h1, h2, F, ho, ho2⟩ := part z hz
    have b1 := F.bi
    have b2 := F.bo
    refine .step (y := (z.1, k)) ⟨by simp; omega, .inl ⟨by show (z.1 : Int) ∈ (nsA s3 s0.length).free; rw [hna]; exact List.mem_map.2 ⟨z, hz, rfl⟩, rfl⟩⟩ ((F.out (by omega) ((F.run _ _).2 q) b1.1 b1.2).trans ?_)
    exact Star.one ⟨by simp; omega, .inl ⟨(ho _).2 rfl, rfl⟩⟩

/-! ### The whole -/
theorem Star.iff {α : Type} {R S : α → α → Prop} (h : ∀ x y, R x y ↔ S x y) {x y : α} : Star R x y ↔ Star S x y := ⟨Star.mono fun x y => (h x y).1, Star.mono fun x y => (h x y).2⟩
mutual
theorem layP_laid (c : List Int) : ∀ (p : Pat) (s : List NS), GoodP p → Laid c s (layP p s).2.2 (layP p s).1 (layP p s).2.1 (Mt p c)
  | .mk op cs ks, s, h => by
    obtain ⟨hk2, hk1, hop⟩ := good_kids h
    have hg := h.eq.2.2
    simp only [Pat.op, Pat.kids] at hk2 hk1 hop hg
    have hM : ∀ k m, Mt (.mk op cs ks) c k m = _ := fun k m => Mt_eq _ c k m
    simp only [Pat.op, Pat.kids, Pat.cls] at hM
    unfold layP
    by_cases h2 : op = 2
    · rw [if_pos h2]
      subst h2
      have := hk2 (.inl rfl)
      match ks, this, hg with
      | k :: r, _, hg =>
        unfold GoodL at hg
        simp only [headP]
        refine (chainP_laid c r _ _ _ _ s hg.2 (layP_laid c k s hg.1)).congr fun x y => ?_
        rw [hM]; simp [MtSeq]
    · rw [if_neg h2]
      by_cases h3 : op = 3
      · rw [if_pos h3]
        subst h3
        obtain ⟨l, K, e1, e2⟩ := kidsP_laid c s.length s ks [] (newS s) [] hg (KidsL.start c s) rfl
        have := K.close
        show Laid c s (outsP (kidsP s.length ks [] (newS s)).2.length (kidsP s.length ks [] (newS s)).1 (newS (kidsP s.length ks [] (newS s)).2)) s.length (kidsP s.length ks [] (newS s)).2.length _
        rw [e1]
        simp only [List.not_mem_nil, false_and, exists_false, false_or] at e2
        refine this.congr fun x y => ?_
        rw [hM]
        simp only [Int.reduceEq, if_false, if_true]
        rw [MtAny_iff]
        exact e2 x y
      · rw [if_neg h3]
        by_cases h4 : op = 4 ∨ op = 5 ∨ op = 6
        · rw [if_pos h4]
          have := hk1 h4
          match ks, this, hg with
          | [k], _, hg =>
            unfold GoodL at hg
            simp only [firstP]
            refine (Laid.loop op (layP_laid c k (newS s) hg.1)).congr fun x y => ?_
            rw [hM]
            rcases h4 with rfl | rfl | rfl
            · simp only [Int.reduceEq, if_false, if_true, MtHead]
              constructor
              · rintro (⟨_, rfl⟩ | ⟨j, a, rfl | ⟨_, b⟩⟩)
                · exact .refl _
                · exact .one a
                · exact .step a b
              · intro r
                rcases r.inv with rfl | ⟨j, a, b⟩
                · exact .inl ⟨by simp, rfl⟩
                · exact .inr ⟨j, a, .inr ⟨by simp, b⟩⟩
            · simp only [Int.reduceEq, if_false, if_true, MtHead]
              constructor
              · rintro (⟨q, _⟩ | ⟨j, a, rfl | ⟨_, b⟩⟩)
                · exact absurd rfl q
                · exact ⟨_, a, .refl _⟩
                · exact ⟨_, a, b⟩
              · rintro ⟨j, a, b⟩
                exact .inr ⟨j, a, .inr ⟨by simp, b⟩⟩
            · simp only [Int.reduceEq, if_false, if_true, MtHead]
              constructor
              · rintro (⟨_, rfl⟩ | ⟨j, a, rfl | ⟨q, b⟩⟩)
                · exact .inl rfl
                · exact .inr a
                · exact absurd rfl q
              · rintro (rfl | a)
                · exact .inl ⟨by simp, rfl⟩
                · exact .inr ⟨_, a, .inl rfl⟩
        · rw [if_neg h4]
          by_cases h0 : op = 0
          · simp only [if_pos h0]
            refine (laid_empty c s).congr fun x y => ?_
            subst h0
            rw [hM]; simp
          · simp only [if_neg h0]
            have h1 : op = 1 := by omega
            refine (laid_set c cs s).congr fun x y => ?_
            subst h1
            rw [hM]; simp
theorem chainP_laid (c : List Int) : ∀ (ks : List Pat) (i o : Nat) (s : List NS) (Q : Nat → Nat → Prop) (s0 : List NS), GoodL ks → Laid c s0 s i o Q →
    Laid c s0 (chainP ks i o s).2.2 (chainP ks i o s).1 (chainP ks i o s).2.1 (fun k m => ∃ j, Q k j ∧ MtSeq ks c j m)
  | [], i, o, s, Q, s0, _, L => by
    unfold chainP
    exact L.congr fun k m => by simp [MtSeq]
  | k :: r, i, o, s, Q, s0, hg, L => by
    unfold GoodL at hg
    rw [chainP]
    refine (chainP_laid c r _ _ _ _ s0 hg.2 (L.seq (layP_laid c k s hg.1))).congr fun x y => ?_
    simp only [MtSeq]
    constructor
    · rintro ⟨j, ⟨j', a, b⟩, d⟩; exact ⟨j', a, j, b, d⟩
    · rintro ⟨j', a, j, b, d⟩; exact ⟨j, ⟨j', a, b⟩, d⟩
theorem kidsP_laid (c : List Int) (a : Nat) (s0 : List NS) : ∀ (ks : List Pat) (outs : List Nat) (s : List NS) (l : List Part), GoodL ks → KidsL c a s0 s l → outs = l.map (fun x => x.2.1) →
    ∃ l', KidsL c a s0 (kidsP a ks outs s).2 l' ∧ (kidsP a ks outs s).1 = l'.map (fun x => x.2.1) ∧ ∀ k m, (∃ x ∈ l', x.2.2 k m) ↔ ((∃ x ∈ l, x.2.2 k m) ∨ ∃ p ∈ ks, Mt p c k m)
  | [], outs, s, l, _, K, e => by unfold kidsP; exact ⟨l, K, e, fun k m => by simp⟩
  | k :: r, outs, s, l, hg, K, e => by
    unfold GoodL at hg
    rw [kidsP]
    obtain ⟨l', K', e', h'⟩ := kidsP_laid c a s0 r (outs ++ [(layP k s).2.1]) _ (l ++ [((layP k s).1, (layP k s).2.1, Mt k c)]) hg.2 (K.push (layP_laid c k s hg.1)) (by rw [e]; simp)
    refine ⟨l', K', e', fun x y => ?_⟩
    rw [h']
    simp only [List.mem_append, List.mem_singleton, List.mem_cons, List.not_mem_nil, or_false]
    constructor
    · rintro (⟨z, hz | rfl, q⟩ | ⟨p, hp, q⟩)
      · exact .inl ⟨z, hz, q⟩
      · exact .inr ⟨k, .inl rfl, q⟩
      · exact .inr ⟨p, .inr hp, q⟩
    · rintro (⟨z, hz, q⟩ | ⟨p, rfl | hp, q⟩)
      · exact .inl ⟨z, .inl hz, q⟩
      · exact .inl ⟨_, .inr rfl, q⟩
      · exact .inr ⟨p, hp, q⟩
end
/-- Kleene. -/
theorem kleene (c : List Int) {p : Pat} (h : GoodP p) (k m : Nat) : Star (Stp (layP p []).2.2 c) ((layP p []).1, k) ((layP p []).2.1, m) ↔ Mt p c k m := by
  have L := layP_laid c p [] h
  rw [← L.fr.run k m]
  constructor
  · have : ∀ (x z : Nat × Nat), Star (Stp (layP p []).2.2 c) x z → z.1 = (layP p []).2.1 → Run (layP p []).2.2 c (layP p []).2.1 x z := by
      intro x z r
      induction r with
      | refl x => intro _; exact .refl _
      | @step x y z g t ih =>
        intro e
        refine .step ⟨fun hx => ?_, g⟩ (ih e)
        rcases g with ⟨q, _⟩ | ⟨cls, q, _⟩
        · rw [hx, L.emp] at q; cases q
        · rw [hx, L.emp] at q; cases q
    exact fun r => this _ _ r rfl
  · exact Star.mono fun x y g => g.2
end Go.Amb
end

section
/- Small functions over lists of numbers. -/
set_option linter.unusedVariables false
set_option linter.unusedSimpArgs false
namespace Go.Amb
open Go.Proofs

/-- What was there stays. -/
structure Exh (h h' : AHeap) : Prop where
  next : h.next ≤ h'.next
  keep : ∀ i, i < h.next → h'.get i = h.get i
theorem Exh.refl (h : AHeap) : Exh h h := ⟨Nat.le_refl _, fun _ _ => rfl⟩
theorem Exh.trans {a b c : AHeap} (x : Exh a b) (y : Exh b c) : Exh a c := ⟨Nat.le_trans x.next y.next, fun i hi => by rw [y.keep i (Nat.lt_of_lt_of_le hi x.next), x.keep i hi]⟩
theorem Exh.new (h : AHeap) (o : AObj) : Exh h (h.new o) := ⟨by simp, fun i hi => get_new_lt o hi⟩
/-- A list of numbers that can be read. -/
def NL (h : AHeap) (v : Value) (l : List Int) : Prop := ∃ a c, v = .slice a l.length c ∧ ∀ i x, l[i]? = some x → ∃ F, a = some ⟨F, 0, none⟩ ∧ F < h.next ∧ h.cell? F i = some (I x)
theorem NL.of {h : AHeap} {F : Nat} {l : List Int} {c : Nat} {e : TypeId} {opn : Option Nat} {ro : Bool} (hg : h.get F = .cells (ints l) e opn ro) (hF : F < h.next) : NL h (S0 F 0 l.length c) l :=
  ⟨_, _, rfl, fun i x hx => ⟨F, rfl, hF, by rw [cell?_of hg]; simp [ints, hx]⟩⟩
theorem NL.nil (h : AHeap) : NL h nilS [] := ⟨none, 0, rfl, fun i x hx => by simp at hx⟩
theorem NL.ext {h h' : AHeap} {v : Value} {l : List Int} (H : NL h v l) (E : Exh h h') : NL h' v l := by
  obtain ⟨a, c, e, k⟩ := H
  refine ⟨a, c, e, fun i x hx => ?_⟩
  obtain ⟨F, h1, h2, h3⟩ := k i x hx
  exact ⟨F, h1, Nat.lt_of_lt_of_le h2 E.next, by unfold AHeap.cell? at h3 ⊢; rw [E.keep F h2]; exact h3⟩
theorem IntsAt.nl {N : Nat} {h : AHeap} {v : Value} {l : List Int} (H : IntsAt N h v l) (hN : N ≤ h.next) : NL h v l := by
  rcases H with ⟨rfl, rfl⟩ | ⟨i, c, e, rfl, h2, h3, h4, h5⟩
  · exact NL.nil h
  · exact NL.of h5 (by omega)
theorem ClsRep.nl {h : AHeap} {v : Value} {l : List Int} {fp : List Nat} (H : ClsRep h v l fp) (hl : ∀ i ∈ fp, i < h.next) : NL h v l := by
  rcases H with ⟨rfl, rfl, _⟩ | ⟨C, o, rfl, h2, rfl⟩
  · exact NL.nil h
  · exact NL.of h2 (hl C (by simp))
theorem FreeRep.nl {h : AHeap} {v : Value} {l : List Int} {fp : List Nat} (H : FreeRep h v l fp) (hl : ∀ i ∈ fp, i < h.next) : NL h v l := by
  rcases H with ⟨rfl, rfl, _⟩ | ⟨C, _, rfl, h2, rfl⟩
  · exact NL.nil h
  · exact NL.of h2 (hl C (by simp))

theorem ev151 (X : Call) (n : Nat) (a : Int) (h : AHeap) : evF EK X (n + 1) 151 [I a] h = some (.ret (.bool false) h) := by
  rw [evF_B _ _ _ _ _ _ (by kernel_rfl), g151_eq, g151]
  simp [updL_cons]
theorem ev138 (X : Call) (n : Nat) (a : Int) (h : AHeap) : evF EK X (n + 1) 138 [I a] h = some (.ret (.bool false) h) := by
  rw [evF_B _ _ _ _ _ _ (by kernel_rfl), g138_eq, g138]
  simp [updL_cons]
theorem ev137 (X : Call) (n : Nat) (a b : Int) (h : AHeap) : evF EK X (n + 2) 137 [I a, I b] h = some (.ret (.bool (decide (a < b))) h) := by
  rw [evF_B _ _ _ _ _ _ (by kernel_rfl), g137_eq, g137]
  simp only [st0_zero, st0_succ]
  rw [cCall_ret (ev151 X n a h)]
  simp only [asRetL_one, asTIL_one, asLK_bool, gd_false, cPick_eq, Bool.false_eq_true, if_false, cBin_lss, g137_C1]
  simp [updL_cons]

theorem not_take {l : List Int} {i : Nat} {x : Int} (hil : i < l.length) (h : x ∉ l.take i) (e : x ≠ l[i]) : x ∉ l.take (i + 1) := by
  rw [← List.take_append_getElem hil, List.mem_append]
  simp only [List.mem_singleton]
  exact fun q => q.elim h e
theorem ev110_loop (call : Call) (lf : Nat) {h : AHeap} {v : Value} {l : List Int} (H : NL h v l) (ht : l.length ≤ 1000000) (x : Int) (K : KS) (P : Option Ans → Prop)
    (k0 : x ∈ l → ∀ σ' (r : Nat), σ' 4 = I r → P (K .ret σ' h)) (k1 : x ∉ l → ∀ σ', P (K (.exit 0) σ' h)) :
    ∀ (m i n : Nat) (σ : St), l.length - i = m → i ≤ l.length → m < n → x ∉ l.take i → σ 0 = v → σ 1 = I x → σ 7 = I l.length → σ 8 = I i →
    P (loopS (g110_L1 call lf) n σ h K) := by
  intro m
  induction m with
  | zero =>
    intro i n σ hm hi hn hx h0 h1 h7 h8
    obtain ⟨n, rfl⟩ : ∃ q, n = q + 1 := ⟨n - 1, by omega⟩
    have hil : i = l.length := by omega
    subst hil
    rw [loopS_succ, g110_L1]
    simp only [h7, h8, cBin_lss, Int.lt_irrefl, decide_false, cIf_eq, Bool.false_eq_true, if_false, loopK_exit]
    exact k1 (by simpa using hx) _
  | succ m ih =>
    intro i n σ hm hi hn hx h0 h1 h7 h8
    obtain ⟨n, rfl⟩ : ∃ q, n = q + 1 := ⟨n - 1, by omega⟩
    have hil : i < l.length := by omega
    obtain ⟨a, c, rfl, hk⟩ := H
    obtain ⟨F, rfl, _, hc⟩ := hk i l[i] (List.getElem?_eq_getElem hil)
    have h1' : ((i : Int) < (l.length : Int)) := by omega
    rw [loopS_succ, g110_L1]
    simp only [h0, h1, h7, h8, cBin_lss, h1', decide_true, cIf_eq, if_true, cIdxS_slice, idx?_nat hil, ob_some, Nat.zero_add, Nat.mul_one, cLoad1_ptr, ld1_eq, hc, asLK_int, cBin_eql, decide_eq_true_eq]
    by_cases e : x = l[i]
    · rw [if_pos e, loopK_ret]
      exact k0 (by rw [e]; exact List.getElem_mem hil) _ i (by simp [updL_cons])
    · rw [if_neg e, cBin_add _ _ _ (by omega) (by omega), loopK_normal]
      exact ih (i + 1) n _ (by omega) (by omega) (by omega) (not_take hil hx e) (by simp [updL_cons, h0]) (by simp [updL_cons, h1]) (by simp [updL_cons, h7]) (by simp [updL_cons])
theorem ev110 (X : Call) (n : Nat) {h : AHeap} {v : Value} {l : List Int} (H : NL h v l) (ht : l.length ≤ 1000000) (x : Int) (hn : l.length < n) :
    ∃ r : Int, evF EK X (n + 1) 110 [v, I x] h = some (.ret (I r) h) ∧ (0 ≤ r ↔ x ∈ l) := by
  rw [evF_B _ _ _ _ _ _ (by kernel_rfl), g110_eq, g110]
  have hv := H
  obtain ⟨a, c, hv, _⟩ := hv
  simp only [st0_zero, hv, cLenS_eq]
  refine ev110_loop (evF EK X n) n H ht x _ (fun o => ∃ r : Int, o = some (.ret (I r) h) ∧ (0 ≤ r ↔ x ∈ l)) ?_ ?_ l.length 0 n _ (by omega) (by omega) hn (by simp) (by simp [updL_cons, hv]) (by simp [updL_cons]) (by simp [updL_cons]) (by simp [updL_cons])
  · intro hx σ' r hr
    exact ⟨r, by simp [hr], by simp [hx]⟩
  · intro hx σ'
    exact ⟨-1, by simp [g110_C2, updL_cons], by simp [hx]⟩
theorem ev70 (X : Call) (n : Nat) {h : AHeap} {v : Value} {l : List Int} (H : NL h v l) (ht : l.length ≤ 1000000) (x : Int) (hn : l.length < n) :
    evF EK X (n + 2) 70 [v, I x] h = some (.ret (.bool (decide (x ∈ l))) h) := by
  rw [evF_B _ _ _ _ _ _ (by kernel_rfl), g70_eq, g70]
  obtain ⟨r, e, hr⟩ := ev110 X n H ht x hn
  simp only [st0_zero, st0_succ]
  rw [cCall_ret e]
  simp only [asRetL_one, asTIL_one, asLK_int, cBin_geq, ge_iff_le, hr]
  simp [updL_cons]

theorem ev71_loop (call : Call) (lf : Nat) {h : AHeap} {v : Value} {l : List Int} (H : NL h v l) (ht : l.length ≤ 1000000) (x : Int) (K : KS) (P : Option Ans → Prop)
    (k0 : x ∈ l → ∀ σ', σ' 4 = .bool true → P (K .ret σ' h)) (k1 : x ∉ l → ∀ σ', P (K (.exit 0) σ' h)) :
    ∀ (m i n : Nat) (σ : St), l.length - i = m → i ≤ l.length → m < n → x ∉ l.take i → σ 0 = v → σ 1 = I x → σ 5 = I i →
    P (loopS (g71_L1 call lf) n σ h K) := by
  have hv := H
  obtain ⟨a0, c0, hv, _⟩ := hv
  intro m
  induction m with
  | zero =>
    intro i n σ hm hi hn hx h0 h1 h8
    obtain ⟨n, rfl⟩ : ∃ q, n = q + 1 := ⟨n - 1, by omega⟩
    have hil : i = l.length := by omega
    subst hil
    rw [loopS_succ, g71_L1]
    simp only [h0, hv, h8, cLenS_eq, cBin_lss, Int.lt_irrefl, decide_false, cIf_eq, Bool.false_eq_true, if_false, loopK_exit]
    exact k1 (by simpa using hx) _
  | succ m ih =>
    intro i n σ hm hi hn hx h0 h1 h8
    obtain ⟨n, rfl⟩ : ∃ q, n = q + 1 := ⟨n - 1, by omega⟩
    have hil : i < l.length := by omega
    obtain ⟨a, c, rfl, hk⟩ := H
    obtain ⟨F, rfl, _, hc⟩ := hk i l[i] (List.getElem?_eq_getElem hil)
    have h1' : ((i : Int) < (l.length : Int)) := by omega
    rw [loopS_succ, g71_L1]
    simp only [h0, h1, h8, cLenS_eq, cBin_lss, h1', decide_true, cIf_eq, if_true, cIdxS_slice, idx?_nat hil, ob_some, Nat.zero_add, Nat.mul_one, cLoad1_ptr, ld1_eq, hc, asLK_int, cBin_eql, decide_eq_true_eq]
    by_cases e : l[i] = x
    · rw [if_pos e, loopK_ret]
      exact k0 (by rw [← e]; exact List.getElem_mem hil) _ (by simp [updL_cons])
    · rw [if_neg e, cBin_add _ _ _ (by omega) (by omega), loopK_normal]
      exact ih (i + 1) n _ (by omega) (by omega) (by omega) (not_take hil hx fun q => e q.symm) (by simp [updL_cons, h0]) (by simp [updL_cons, h1]) (by simp [updL_cons])
theorem ev71 (X : Call) (n : Nat) {h : AHeap} {v : Value} {l : List Int} (H : NL h v l) (ht : l.length ≤ 1000000) (x : Int) (hn : l.length < n) :
    evF EK X (n + 1) 71 [v, I x] h = some (.ret (.bool (decide (x ∈ l))) h) := by
  rw [evF_B _ _ _ _ _ _ (by kernel_rfl), g71_eq, g71]
  refine ev71_loop (evF EK X n) n H ht x _ (fun o => o = some (.ret (.bool (decide (x ∈ l))) h)) ?_ ?_ l.length 0 n _ (by omega) (by omega) hn (by simp) (by simp [updL_cons]) (by simp [updL_cons]) (by simp [updL_cons])
  · intro hx σ' hr
    simp [hr, hx]
  · intro hx σ'
    simp [g71_C2, updL_cons, hx]

theorem ev37_loop (call : Call) (lf : Nat) {h : AHeap} {v w : Value} {l : List Int} (H : NL h v l) (H' : NL h w l) (ht : l.length ≤ 1000000) (K : KS) (P : Option Ans → Prop)
    (k1 : ∀ σ', P (K (.exit 0) σ' h)) :
    ∀ (m i n : Nat) (σ : St), l.length - i = m → i ≤ l.length → m < n → σ 0 = v → σ 1 = w → σ 5 = I i →
    P (loopS (g37_L1 call lf) n σ h K) := by
  have hv := H
  obtain ⟨a0, c0, hv, _⟩ := hv
  intro m
  induction m with
  | zero =>
    intro i n σ hm hi hn h0 h1 h8
    obtain ⟨n, rfl⟩ : ∃ q, n = q + 1 := ⟨n - 1, by omega⟩
    have hil : i = l.length := by omega
    subst hil
    rw [loopS_succ, g37_L1]
    simp only [h0, hv, h8, cLenS_eq, cBin_lss, Int.lt_irrefl, decide_false, cIf_eq, Bool.false_eq_true, if_false, loopK_exit]
    exact k1 _
  | succ m ih =>
    intro i n σ hm hi hn h0 h1 h8
    obtain ⟨n, rfl⟩ : ∃ q, n = q + 1 := ⟨n - 1, by omega⟩
    have hil : i < l.length := by omega
    obtain ⟨a, c, rfl, hk⟩ := H
    obtain ⟨F, rfl, _, hc⟩ := hk i l[i] (List.getElem?_eq_getElem hil)
    obtain ⟨a', c', rfl, hk'⟩ := H'
    obtain ⟨F', rfl, _, hc'⟩ := hk' i l[i] (List.getElem?_eq_getElem hil)
    have h1' : ((i : Int) < (l.length : Int)) := by omega
    rw [loopS_succ, g37_L1]
    simp only [h0, h1, h8, cLenS_eq, cBin_lss, h1', decide_true, cIf_eq, if_true, cIdxS_slice, idx?_nat hil, ob_some, Nat.zero_add, Nat.mul_one, cLoad1_ptr, ld1_eq, hc, hc', asLK_int, cBin_neq, rety_eq, dr_ret, Bool.not_true, Bool.false_eq_true, if_false]
    rw [cBin_add _ _ _ (by omega) (by omega), loopK_normal]
    exact ih (i + 1) n _ (by omega) (by omega) (by omega) (by simp [updL_cons, h0]) (by simp [updL_cons, h1]) (by simp [updL_cons])
theorem ev37 (X : Call) (n : Nat) {h : AHeap} {v w : Value} {l : List Int} (H : NL h v l) (H' : NL h w l) (ht : l.length ≤ 1000000) (hn : l.length < n) :
    evF EK X (n + 1) 37 [v, w] h = some (.ret (.bool true) h) := by
  rw [evF_B _ _ _ _ _ _ (by kernel_rfl), g37_eq, g37]
  have hv := H
  obtain ⟨a0, c0, hv, _⟩ := hv
  have hw := H'
  obtain ⟨a1, c1, hw, _⟩ := hw
  simp only [st0_zero, st0_succ, hv, hw, cLenS_eq, cBin_neq, decide_true, Bool.not_true, cIf_eq, Bool.false_eq_true, if_false]
  refine ev37_loop (evF EK X n) n H H' ht _ (fun o => o = some (.ret (.bool true) h)) ?_ l.length 0 n _ (by omega) (by omega) hn (by simp [updL_cons, hv]) (by simp [updL_cons, hw]) (by simp [updL_cons])
  intro σ'
  simp [g37_C2, updL_cons]

/-! ### slices.BinarySearch -/
theorem conv_iu (h : AHeap) (k : KV) (a : Int) (h1 : 0 ≤ a) (h2 : a < 9223372036854775808) : opConvertR EK idR h k 3 168 (.const (I a)) = k (.int .u64 a) h := by
  have e : opConvertR EK idR h k 3 168 (.const (I a)) = k (.int .u64 (IntKind.u64.wrap a)) h := by kernel_rfl
  rw [e, Go.IntWalk.u64_in _ (by omega)]
theorem conv_ui (h : AHeap) (k : KV) (a : Int) (h1 : 0 ≤ a) (h2 : a < 9223372036854775808) : opConvertR EK idR h k 168 3 (.const (.int .u64 a)) = k (I a) h := by
  have e : opConvertR EK idR h k 168 3 (.const (.int .u64 a)) = k (.int .i64 (IntKind.i64.wrap a)) h := by kernel_rfl
  rw [e, Go.IntWalk.i64_in _ (by omega)]
theorem shr1 (a : Int) (K1 : K1) (h : 0 ≤ a) : cBin EK .shr 168 (.int .u64 a) (.int .u64 1) K1 = K1 (.int .u64 (a / 2)) := by
  show K1 (.int .u64 (a.fdiv (2 ^ 1))) = _
  rw [Int.fdiv_eq_ediv_of_nonneg _ (by decide)]
  rfl
def Srt (l : List Int) : Prop := ∀ (i j : Nat) (a b : Int), i < j → l[i]? = some a → l[j]? = some b → a < b
theorem ev113_loop (X : Call) (lf q : Nat) {h : AHeap} {v : Value} {l : List Int} (H : NL h v l) (ht : l.length ≤ 1000000) (hs : Srt l) (x : Int) (K : KS) (P : Option Ans → Prop)
    (k1 : ∀ (σ' : St) (i : Nat), i ≤ l.length → (∀ r a, r < i → l[r]? = some a → a < x) → (∀ r a, i ≤ r → l[r]? = some a → x ≤ a) → σ' 0 = v → σ' 1 = I x → σ' 6 = I l.length → σ' 7 = I i → P (K (.exit 0) σ' h)) :
    ∀ (m i j n : Nat) (σ : St), j - i = m → i ≤ j → j ≤ l.length → m < n → (∀ r a, r < i → l[r]? = some a → a < x) → (∀ r a, j ≤ r → l[r]? = some a → x ≤ a) → σ 0 = v → σ 1 = I x → σ 6 = I l.length → σ 7 = I i → σ 8 = I j →
    P (loopS (g113_L1 (evF EK X (q + 2)) lf) n σ h K) := by
  intro m
  induction m using Nat.strongRecOn with
  | ind m ih =>
    intro i j n σ hm hij hj hn hlo hhi h0 h1 h6 h7 h8
    obtain ⟨n, rfl⟩ : ∃ q, n = q + 1 := ⟨n - 1, by omega⟩
    rw [loopS_succ, g113_L1]
    by_cases e : i < j
    · have hd1 : i ≤ (i + j) / 2 := by omega
      have hd2 : (i + j) / 2 < j := by omega
      have hdl : (i + j) / 2 < l.length := by omega
      obtain ⟨a, c, rfl, hk⟩ := H
      obtain ⟨F, rfl, _, hc⟩ := hk ((i + j) / 2) l[(i + j) / 2] (List.getElem?_eq_getElem hdl)
      have hg := List.getElem?_eq_getElem hdl
      have h1' : ((i : Int) < (j : Int)) := by omega
      simp only [h0, h1, h7, h8, cBin_lss, h1', decide_true, cIf_eq, if_true]
      rw [cBin_add _ _ _ (by omega) (by omega), conv_iu _ _ _ (by omega) (by omega), shr1 _ _ (by omega), conv_ui _ _ _ (by omega) (by omega)]
      have hh : ((i : Int) + (j : Int)) / 2 = (((i + j) / 2 : Nat) : Int) := by omega
      generalize hy : l[(i + j) / 2] = y at *
      simp only [hh, cIdxS_slice, idx?_nat hdl, ob_some, Nat.zero_add, Nat.mul_one, cLoad1_ptr, ld1_eq, hc, asLK_int]
      rw [cCall_ret (ev137 X q y x h)]
      simp only [asRetL_one, asTIL_one, asLK_bool, cIf_eq, decide_eq_true_eq]
      by_cases hyx : y < x
      · rw [if_pos hyx, cBin_add _ _ _ (by omega) (by omega), loopK_normal]
        refine ih (j - ((i + j) / 2 + 1)) (by omega) ((i + j) / 2 + 1) j n _ rfl (by omega) hj (by omega) (fun r b hr hb => ?_) hhi (by simp [updL_cons, h0]) (by simp [updL_cons, h1]) (by simp [updL_cons, h6]) (by simp [updL_cons]) (by simp [updL_cons, h8])
        by_cases er : r = (i + j) / 2
        · subst er; rw [hg] at hb; cases hb; exact hyx
        · have := hs r _ b y (by omega) hb hg; omega
      · rw [if_neg hyx, loopK_normal]
        refine ih ((i + j) / 2 - i) (by omega) i ((i + j) / 2) n _ rfl (by omega) (by omega) (by omega) hlo (fun r b hr hb => ?_) (by simp [updL_cons, h0]) (by simp [updL_cons, h1]) (by simp [updL_cons, h6]) (by simp [updL_cons, h7]) (by simp [updL_cons])
        by_cases er : r = (i + j) / 2
        · subst er; rw [hg] at hb; cases hb; omega
        · have := hs _ r y b (by omega) hg hb; omega
    · have : i = j := by omega
      subst this
      simp only [h7, h8, cBin_lss, Int.lt_irrefl, decide_false, cIf_eq, Bool.false_eq_true, if_false, loopK_exit]
      exact k1 _ i hj hlo hhi (by simp [updL_cons, h0]) (by simp [updL_cons, h1]) (by simp [updL_cons, h6]) (by simp [updL_cons, h7])
theorem ev113 (X : Call) (n : Nat) {h : AHeap} {v : Value} {l : List Int} (H : NL h v l) (ht : l.length ≤ 1000000) (hs : Srt l) (x : Int) (hn : l.length < n + 2) :
    ∃ r : Int, evF EK X (n + 3) 113 [v, I x] h = some (.ret (.tuple #[I r, .bool (decide (x ∈ l))]) h) := by
  rw [evF_B _ _ _ _ _ _ (by kernel_rfl), g113_eq, g113]
  have hv := H
  obtain ⟨a0, c0, hv, _⟩ := hv
  simp only [st0_zero, hv, cLenS_eq]
  refine ev113_loop X (n + 2) n H ht hs x _ (fun o => ∃ r : Int, o = some (.ret (.tuple #[I r, .bool (decide (x ∈ l))]) h)) ?_ l.length 0 l.length (n + 2) _ (by omega) (by omega) (by omega) hn (fun r a hr => by omega) (fun r a hr ha => by have := (List.getElem?_eq_some_iff.1 ha).1; omega) (by simp [updL_cons, hv]) (by simp [updL_cons]) (by simp [updL_cons]) (by simp [updL_cons]) (by simp [updL_cons])
  intro σ' i hi hlo hhi h0 h1 h6 h7
  refine ⟨i, ?_⟩
  simp only [hBlk_same, hSeq_normal]
  rw [g113_C2]
  simp only [h6, h7, cBin_lss]
  by_cases e : i < l.length
  · have h1' : ((i : Int) < (l.length : Int)) := by omega
    obtain ⟨a, c, rfl, hk⟩ := H
    have hg := List.getElem?_eq_getElem e
    obtain ⟨F, rfl, _, hc⟩ := hk i l[i] hg
    generalize l[i] = y at *
    simp only [h1', decide_true, gd_true, h0, h1, cIdxS_slice, idx?_nat e, ob_some, Nat.zero_add, Nat.mul_one, cLoad1_ptr, ld1_eq, hc, asLK_int, cBin_eql]
    by_cases ey : y = x
    · have hm : x ∈ l := by rw [← ey]; exact List.mem_of_getElem? hg
      simp only [ey, decide_true, gd_true, gd_undef, cPick_eq, if_true, g113_C3]
      simp [updL_cons, hm]
    · have hm : x ∉ l := by
        intro hm
        obtain ⟨r, hr⟩ := List.getElem?_of_mem hm
        rcases Nat.lt_or_ge r i with q | q
        · have := hlo r x q hr; omega
        · have h2 := hhi i y (Nat.le_refl _) hg
          rcases Nat.eq_or_lt_of_le q with q | q
          · subst q; rw [hg] at hr; cases hr; exact ey rfl
          · have := hs i r y x q hg hr; omega
      simp only [ey, decide_false, gd_false]
      rw [cCall_ret (ev138 X (n + 1) y h)]
      simp only [asRetL_one, asTIL_one, asLK_bool, gd_false, cPick_eq, Bool.false_eq_true, if_false, if_true, g113_C3]
      simp [updL_cons, hm]
  · have h1' : ¬ ((i : Int) < (l.length : Int)) := by omega
    have hm : x ∉ l := by
      intro hm
      obtain ⟨r, hr⟩ := List.getElem?_of_mem hm
      have := hlo r x (by have := (List.getElem?_eq_some_iff.1 hr).1; omega) hr
      omega
    simp only [h1', decide_false, gd_false, gd_undef, cPick_eq, Bool.false_eq_true, if_false, g113_C3]
    simp [updL_cons, hm]
end Go.Amb
end

section
/- Automata that are read: how wide they are. -/
set_option linter.unusedVariables false
set_option linter.unusedSimpArgs false
namespace Go.Amb
open Go.Proofs

/-- States that can be read. -/
def SA (h : AHeap) (v : Value) (s : List NS) : Prop := (∃ a c, v = .slice a s.length c) ∧ ∀ i st, s[i]? = some st → ∃ S ve vf, StAt h v s.length i st S ve vf
theorem StAt.ext {h h' : AHeap} {v : Value} {k i : Nat} {st : NS} {S : Nat} {ve vf : Value} (H : StAt h v k i st S ve vf) (E : Exh h h') : StAt h' v k i st S ve vf := H.frame E.next E.keep
theorem SA.ext {h h' : AHeap} {v : Value} {s : List NS} (H : SA h v s) (E : Exh h h') : SA h' v s := ⟨H.1, fun i st e => by obtain ⟨S, ve, vf, q⟩ := H.2 i st e; exact ⟨S, ve, vf, q.ext E⟩⟩
theorem StsRep.sa {h : AHeap} {v : Value} {s : List NS} {fs : List Nat} (H : StsRep h v s fs) (hl : ∀ j ∈ fs, j < h.next) : SA h v s := ⟨H.slc, fun i st e => H.at hl e⟩
/-- One edge, or none. -/
theorem StAt.edge {h : AHeap} {v : Value} {k i : Nat} {st : NS} {S : Nat} {ve vf : Value} (H : StAt h v k i st S ve vf) : (st.edges = [] ∧ ve = nilS) ∨ ∃ cls to G vc, st.edges = [(cls, to)] ∧ ve = S0 G 0 1 1 ∧ G < h.next ∧ h.get G = .cells [vc, I to] 106 none false ∧ NL h vc cls := by
  obtain ⟨fe, a, b⟩ := H.e
  rcases a with ⟨h1, h2, _⟩ | ⟨cls, to, G, vc, fc, h1, h2, h3, h4, h5⟩
  · exact .inl ⟨h1, h2⟩
  · refine .inr ⟨cls, to, G, vc, h1, h2, b G (by rw [h5]; simp), h3, h4.nl fun j hj => b j (by rw [h5]; simp [hj])⟩
theorem StAt.nl {h : AHeap} {v : Value} {k i : Nat} {st : NS} {S : Nat} {ve vf : Value} (H : StAt h v k i st S ve vf) : NL h vf st.free := by
  obtain ⟨ff, a, b⟩ := H.f
  exact a.nl b

theorem ev34_L2 (call : Call) (lf : Nat) {h : AHeap} {B : Nat} {v : Value} {rest : List Value} {N i : Nat} {st : NS} {S : Nat} {ve vf : Value} (hB : h.get B = .cells (v :: rest) 67 none false) (H : StAt h v N i st S ve vf) (hi : i < N) (hc : ∀ e ∈ st.edges, e.1.length ≤ 64)
    (k : Nat) (hk : k ≤ 1000000000) (K : KS) (P : Option Ans → Prop)
    (k1 : ∀ (σ' : St) (k' : Nat), k' ≤ k + 64 → σ' 1 = P0 B 0 → σ' 3 = I k' → σ' 4 = I i → P (K (.exit 2) σ' h)) (n : Nat) (σ : St) (h1 : σ 1 = P0 B 0) (h3 : σ 3 = I k) (h4 : σ 4 = I i) (h5 : σ 5 = I 0) :
    P (loopS (g34_L2 call lf) (n + 2) σ h K) := by
  have hv := H.v
  have hce := H.ce
  have hcB : h.cell? B 0 = some v := by rw [cell?_of hB]; rfl
  rcases H.edge with ⟨e1, rfl⟩ | ⟨cls, to, G, vc, e1, rfl, hG, hg, hn⟩
  · rw [loopS_succ, g34_L2]
    simp only [h1, h4, h5, cFieldAddr_ptr, Nat.zero_add, Nat.add_zero, cLoad1_ptr, ld1_eq, hcB, hv, ob_some, asLK_slc, cIdxS_slice, idx?_nat hi, hce, cLenS_eq, cBin_lss]
    simp only [show ¬ ((0 : Int) < ((0 : Nat) : Int)) by decide, decide_false, gd_false, cPick_eq, Bool.false_eq_true, if_false]
    rw [g34_C3]
    simp only [updL_cons, updL_nil, ↓reduceIte, Nat.reduceEqDiff, cIf_eq, Bool.false_eq_true, if_false, loopK_exit]
    exact k1 _ k (by omega) (by simp [updL_cons, h1]) (by simp [updL_cons, h3]) (by simp [updL_cons, h4])
  · have hl := hc (cls, to) (by rw [e1]; simp)
    simp only at hl
    obtain ⟨a, c, hvc, _⟩ := hn
    have hg0 : h.cell? G 0 = some vc := by rw [cell?_of hg]; rfl
    have x1 : idx? (0 : Int) 1 = some 0 := rfl
    rw [loopS_succ, g34_L2]
    simp only [h1, h4, h5, cFieldAddr_ptr, Nat.zero_add, Nat.add_zero, cLoad1_ptr, ld1_eq, hcB, hv, ob_some, asLK_slc, cIdxS_slice, idx?_nat hi, hce, cLenS_eq, cBin_lss]
    simp only [show ((0 : Int) < ((1 : Nat) : Int)) by decide, decide_true, gd_true, cBin_leq, show ((0 : Int) ≤ 2500) by decide, cPick_eq, if_true]
    rw [g34_C3]
    simp only [updL_cons, updL_nil, ↓reduceIte, Nat.reduceEqDiff, cIf_eq, if_true, h1, h3, h4, h5, cFieldAddr_ptr, Nat.zero_add, Nat.add_zero, cLoad1_ptr, ld1_eq, hcB, hv, ob_some, asLK_slc, cIdxS_slice, idx?_nat hi, hce, x1, Nat.zero_mul, hg0, hvc, cLenS_eq]
    rw [cBin_add _ _ _ (by omega) (by omega), cBin_add _ _ _ (by omega) (by omega), loopK_normal, loopS_succ, g34_L2]
    simp only [updL_cons, updL_nil, ↓reduceIte, Nat.reduceEqDiff, h1, h4, h5, cFieldAddr_ptr, Nat.zero_add, Nat.add_zero, cLoad1_ptr, ld1_eq, hcB, hv, ob_some, asLK_slc, cIdxS_slice, idx?_nat hi, hce, cLenS_eq, cBin_lss]
    simp only [show ¬ ((0 : Int) + 1 < ((1 : Nat) : Int)) by decide, decide_false, gd_false, cPick_eq, Bool.false_eq_true, if_false]
    rw [g34_C3]
    simp only [updL_cons, updL_nil, ↓reduceIte, Nat.reduceEqDiff, cIf_eq, Bool.false_eq_true, if_false, loopK_exit]
    exact k1 _ (k + cls.length) (by omega) (by simp [updL_cons, h1]) (by simp [updL_cons]) (by simp [updL_cons, h4])
theorem ev34_L1 (call : Call) (lf : Nat) {h : AHeap} {B : Nat} {v : Value} {rest : List Value} {s : List NS} (hB : h.get B = .cells (v :: rest) 67 none false) (H : SA h v s) (hs : s.length ≤ 120) (hf : ∀ st ∈ s, st.free.length ≤ 1000000) (hc : ∀ st ∈ s, ∀ e ∈ st.edges, e.1.length ≤ 64)
    (K : KS) (P : Option Ans → Prop)
    (k1 : ∀ (σ' : St) (k' : Nat), σ' 3 = I k' → P (K (.exit 0) σ' h)) :
    ∀ (m i n k : Nat) (σ : St), s.length - i = m → i ≤ s.length → m < n → k ≤ i * 1000065 → σ 1 = P0 B 0 → σ 3 = I k → σ 4 = I i →
    P (loopS (g34_L1 call (lf + 2)) n σ h K) := by
  have hcB : h.cell? B 0 = some v := by rw [cell?_of hB]; rfl
  intro m
  induction m with
  | zero =>
    intro i n k σ hm hi hn hk h1 h3 h4
    obtain ⟨n, rfl⟩ : ∃ q, n = q + 1 := ⟨n - 1, by omega⟩
    have hil : i = s.length := by omega
    subst hil
    obtain ⟨a, c, hv⟩ := H.1
    rw [loopS_succ, g34_L1]
    simp only [h1, h4, cFieldAddr_ptr, Nat.zero_add, cLoad1_ptr, ld1_eq, hcB, hv, ob_some, asLK_slc, cLenS_eq, cBin_lss, Int.lt_irrefl, decide_false, cIf_eq, Bool.false_eq_true, if_false, loopK_exit]
    exact k1 _ k (by simp [updL_cons, h3])
  | succ m ih =>
    intro i n k σ hm hi hn hk h1 h3 h4
    obtain ⟨n, rfl⟩ : ∃ q, n = q + 1 := ⟨n - 1, by omega⟩
    have hil : i < s.length := by omega
    have hmem := List.getElem_mem hil
    have hget : s[i]? = some s[i] := List.getElem?_eq_getElem hil
    generalize s[i] = st at *
    obtain ⟨S, ve, vf, T⟩ := H.2 i st hget
    have hv := T.v
    have hce := T.ce
    have hcf := T.cf
    obtain ⟨⟨ae, ce, hse⟩, _⟩ := T.se
    obtain ⟨⟨af, cf, hsf⟩, _⟩ := T.sf
    have hfl := hf st hmem
    have hel : st.edges.length ≤ 1 := by rcases T.edge with ⟨q, _⟩ | ⟨_, _, _, _, q, _⟩ <;> rw [q] <;> simp
    have h1' : ((i : Int) < (s.length : Int)) := by omega
    have hkk : k + st.free.length + st.edges.length ≤ 1000000000 := by omega
    rw [loopS_succ, g34_L1]
    simp only [h1, h3, h4, cFieldAddr_ptr, Nat.zero_add, cLoad1_ptr, ld1_eq, hcB, hv, ob_some, asLK_slc, cLenS_eq, cBin_lss, h1', decide_true, cIf_eq, if_true, rety_eq, dr_ret, cIdxS_slice, idx?_nat hil, hce, hcf, hse, hsf, Nat.add_zero]
    rw [cBin_add _ _ _ (by omega) (by omega)]
    simp only [rety_eq, dr_ret, hcB, hv, cIdxS_slice, idx?_nat hil, ob_some, cFieldAddr_ptr, Nat.zero_add, Nat.add_zero, cLoad1_ptr, ld1_eq, hce, hse, asLK_slc, cLenS_eq]
    rw [cBin_add _ _ _ (by omega) (by omega)]
    simp only [rety_eq, dr_ret]
    refine ev34_L2 call (lf + 2) hB T hil (hc st hmem) (k + st.free.length + st.edges.length) hkk _ P (fun σ' k' hk' q1 q3 q4 => ?_) lf _ (by simp [updL_cons, h1]) (by simp [updL_cons]) (by simp [updL_cons, h4]) (by simp [updL_cons])
    simp only [hBlk_same, hBlk_normal, hSeq_normal, g34_C4, q4]
    rw [cBin_add _ _ _ (by omega) (by omega), loopK_normal]
    exact ih (i + 1) n k' _ (by omega) (by omega) (by omega) (by omega) (by simp [updL_cons, q1]) (by simp [updL_cons, q3]) (by simp [updL_cons])
theorem ev34 (X : Call) (n : Nat) {h : AHeap} {v : Value} {a b : Int} {s : List NS} (H : SA h v s) (hf : ∀ st ∈ s, st.free.length ≤ 1000000) (hc : ∀ st ∈ s, ∀ e ∈ st.edges, e.1.length ≤ 64) (hn : 200 ≤ n) :
    ∃ h' w, evF EK X (n + 1) 34 [.agg [v, I a, I b].toArray] h = some (.ret (.bool w) h') ∧ Exh h h' ∧ (w = false → s.length ≤ 120) := by
  rw [evF_B _ _ _ _ _ _ (by kernel_rfl), g34_eq, g34]
  obtain ⟨ad, cp, hv⟩ := H.1
  have gB := get_new_self h (.cells [v, I a, I b] 67 none false)
  have E := Exh.new h (.cells [v, I a, I b] 67 none false)
  have H' := H.ext E
  simp only [st0_zero, cNew_eq, Value.cells, List.toList_toArray, cFieldAddr_ptr, Nat.zero_add]
  generalize h.new (.cells [v, I a, I b] 67 none false) = h1 at *
  have hcB : h1.cell? h.next 0 = some v := by rw [cell?_of gB]; rfl
  simp only [cLoad1_ptr, ld1_eq, hcB, ob_some]
  rw [hv]
  simp only [asLK_slc, cLenS_eq, cBin_gtr, cIf_eq, decide_eq_true_eq]
  by_cases hs : (s.length : Int) > 120
  · rw [if_pos hs]
    exact ⟨h1, true, by simp [updL_cons], E, fun h => by cases h⟩
  · rw [if_neg hs, ← hv]
    obtain ⟨m, rfl⟩ : ∃ m, n = m + 2 := ⟨n - 2, by omega⟩
    refine ev34_L1 (evF EK X (m + 2)) m gB H' (by omega) hf hc _ (fun o => ∃ h' w, o = some (.ret (.bool w) h') ∧ Exh h h' ∧ (w = false → s.length ≤ 120)) (fun σ' k' q => ?_) s.length 0 (m + 2) 0 _ (by omega) (by omega) (by omega) (by omega) (by simp [updL_cons]) (by simp [updL_cons]) (by simp [updL_cons])
    simp only [hBlk_same, hSeq_normal, g34_C5, q, cBin_gtr]
    exact ⟨h1, decide ((k' : Int) > 2500), by simp [updL_cons], E, fun _ => by omega⟩
end Go.Amb
end

section
/- Automata that are read: they are good. -/
set_option linter.unusedVariables false
set_option linter.unusedSimpArgs false
namespace Go.Amb
open Go.Proofs

structure GC (l : List Int) : Prop where
  b : ∀ (i : Nat) (x : Int), l[i]? = some x → 0 ≤ x ∧ x < 64
  s : Srt l
theorem GC.len {l : List Int} (H : GC l) : l.length ≤ 64 := by
  have key : ∀ (i : Nat) (x : Int), l[i]? = some x → (i : Int) ≤ x := by
    intro i
    induction i with
    | zero => intro x h; have := H.b 0 x h; omega
    | succ i ih =>
      intro x h
      have hi : i + 1 < l.length := (List.getElem?_eq_some_iff.1 h).1
      have hg : l[i]? = some l[i] := List.getElem?_eq_getElem (by omega)
      have := ih _ hg
      have := H.s i (i + 1) _ _ (by omega) hg h
      omega
  by_cases e : l.length = 0
  · omega
  · have hg : l[l.length - 1]? = some l[l.length - 1] := List.getElem?_eq_getElem (by omega)
    have := key _ _ hg
    have := H.b _ _ hg
    omega
theorem rises_gc : ∀ (l : List Int) (q : Option Int), risesGo 64 q l = true → (∀ x ∈ l, 0 ≤ x ∧ x < 64 ∧ ∀ p, q = some p → p < x) ∧ Srt l := by
  intro l
  induction l with
  | nil => intro q _; exact ⟨by simp, fun i j a b _ h => by simp at h⟩
  | cons y l ih =>
    intro q h
    simp only [risesGo, Bool.and_eq_true, decide_eq_true_eq] at h
    obtain ⟨⟨⟨h1, h2⟩, h3⟩, h4⟩ := h
    obtain ⟨g1, g2⟩ := ih _ h4
    have hq : ∀ p, q = some p → p < y := fun p e => by subst e; simpa using h3
    refine ⟨fun x hx => ?_, fun i j a b hij ha hb => ?_⟩
    · rcases List.mem_cons.1 hx with rfl | hx
      · exact ⟨h1, h2, hq⟩
      · obtain ⟨a, b, c⟩ := g1 x hx
        exact ⟨a, b, fun p e => by have := hq p e; have := c y rfl; omega⟩
    · cases j with
      | zero => omega
      | succ j =>
        cases i with
        | zero => simp at ha hb; subst ha; exact (g1 b (List.mem_of_getElem? hb)).2.2 _ rfl
        | succ i => simp at ha hb; exact g2 i j a b (by omega) ha hb
theorem gc_of {l : List Int} (h : risesGo 64 none l = true) : GC l := by
  obtain ⟨a, b⟩ := rises_gc l none h
  exact ⟨fun i x e => by have := a x (List.mem_of_getElem? e); exact ⟨this.1, this.2.1⟩, b⟩

theorem ev107_loop (call : Call) (lf : Nat) {h : AHeap} {B : Nat} {vc : Value} {rest : List Value} {l : List Int} (hB : h.get B = .cells (vc :: rest) 106 none false) (H : NL h vc l) (g : GC l) (K : KS) (P : Option Ans → Prop)
    (k1 : ∀ (σ' : St), P (K (.exit 0) σ' h)) :
    ∀ (m i n : Nat) (σ : St), l.length - i = m → i ≤ l.length → m < n → σ 2 = P0 B 0 → σ 17 = vc → σ 18 = I l.length → σ 19 = I i →
    P (loopS (g107_L2 call lf) n σ h K) := by
  have hcB : h.cell? B 0 = some vc := by rw [cell?_of hB]; rfl
  have hlen := g.len
  intro m
  induction m with
  | zero =>
    intro i n σ hm hi hn h2 h17 h18 h19
    obtain ⟨n, rfl⟩ : ∃ q, n = q + 1 := ⟨n - 1, by omega⟩
    have hil : i = l.length := by omega
    subst hil
    rw [loopS_succ, g107_L2]
    simp only [h18, h19, cBin_lss, Int.lt_irrefl, decide_false, cIf_eq, Bool.false_eq_true, if_false, loopK_exit]
    exact k1 _
  | succ m ih =>
    intro i n σ hm hi hn h2 h17 h18 h19
    obtain ⟨n, rfl⟩ : ∃ q, n = q + 1 := ⟨n - 1, by omega⟩
    have hil : i < l.length := by omega
    have hg := List.getElem?_eq_getElem hil
    obtain ⟨a, c, rfl, hk⟩ := H
    obtain ⟨F, rfl, _, hc⟩ := hk i l[i] hg
    generalize l[i] = x at *
    obtain ⟨b1, b2⟩ := g.b i x hg
    have h1' : ((i : Int) < (l.length : Int)) := by omega
    have e1 : ¬ x < 0 := by omega
    have e2 : ¬ x ≥ 64 := by omega
    rw [loopS_succ, g107_L2]
    simp only [h2, h17, h18, h19, cBin_lss, h1', decide_true, cIf_eq, if_true, cIdxS_slice, idx?_nat hil, ob_some, Nat.zero_add, Nat.mul_one, cLoad1_ptr, ld1_eq, hc, asLK_int, e1, decide_false, gd_false, cBin_geq, e2, cPick_eq, Bool.false_eq_true, if_false, cBin_gtr]
    have fin : ∀ σ' : St, σ' 43 = .bool false → σ' 2 = P0 B 0 → σ' 17 = .slice (some ⟨F, 0, none⟩) l.length c → σ' 18 = I l.length → σ' 19 = I i → P (g107_C3 call lf σ' h (loopK (g107_L2 call lf) n K)) := by
      intro σ' q43 q2 q17 q18 q19
      rw [g107_C3]
      simp only [q43, q19, cIf_eq, Bool.false_eq_true, if_false]
      rw [cBin_add _ _ _ (by omega) (by omega), loopK_normal]
      exact ih (i + 1) n _ (by omega) (by omega) (by omega) (by simp [updL_cons, q2]) (by simp [updL_cons, q17]) (by simp [updL_cons, q18]) (by simp [updL_cons])
    cases i with
    | zero =>
      simp only [Int.ofNat_zero, gt_iff_lt, Int.lt_irrefl, decide_false, gd_false, cPick_eq, Bool.false_eq_true, if_false]
      exact fin _ (by simp [updL_cons]) (by simp [updL_cons, h2]) (by simp [updL_cons, h17]) (by simp [updL_cons, h18]) (by simp [updL_cons, h19])
    | succ i =>
      have hil' : i < l.length := by omega
      have hg' := List.getElem?_eq_getElem hil'
      obtain ⟨F', e, _, hc'⟩ := hk i l[i] hg'
      generalize l[i] = y at *
      cases e
      have hxy := g.s i (i + 1) y x (by omega) hg' hg
      have p1 : ((i + 1 : Nat) : Int) > 0 := by omega
      have p2 : ((i + 1 : Nat) : Int) - 1 = (i : Int) := by omega
      have p3 : ¬ x ≤ y := by omega
      simp only [p1, decide_true, gd_true, cFieldAddr_ptr, Nat.zero_add, cLoad1_ptr, ld1_eq, hcB, ob_some, asLK_slc]
      rw [cBin_sub _ _ _ (by omega) (by omega), p2]
      simp only [cIdxS_slice, idx?_nat hil', ob_some, Nat.zero_add, Nat.mul_one, cLoad1_ptr, ld1_eq, hc', asLK_int, cBin_leq, p3, decide_false, cPick_eq, if_true, Bool.false_eq_true, if_false]
      exact fin _ (by simp [updL_cons]) (by simp [updL_cons, h2]) (by simp [updL_cons, h17]) (by simp [updL_cons, h18]) (by simp [updL_cons, h19])
theorem ev107 (X : Call) (n : Nat) {h : AHeap} {vc : Value} {l : List Int} {t : Int} {k : Nat} (H : NL h vc l) (g : GC l) (ht : 0 ≤ t ∧ t < k) (hn : 70 ≤ n) :
    ∃ h', evF EK X (n + 1) 107 [.agg [vc, I t].toArray, I k] h = some (.ret (.bool true) h') ∧ Exh h h' := by
  rw [evF_B _ _ _ _ _ _ (by kernel_rfl), g107_eq, g107]
  have gB := get_new_self h (.cells [vc, I t] 106 none false)
  have E := Exh.new h (.cells [vc, I t] 106 none false)
  have H' := H.ext E
  have hlen := g.len
  simp only [st0_zero, st0_succ, cNew_eq, Value.cells, List.toList_toArray, cFieldAddr_ptr, Nat.zero_add]
  generalize h.new (.cells [vc, I t] 106 none false) = h1 at *
  have hcB : h1.cell? h.next 0 = some vc := by rw [cell?_of gB]; rfl
  have hcB1 : h1.cell? h.next 1 = some (I t) := by rw [cell?_of gB]; rfl
  have e1 : ¬ t < 0 := by omega
  have e2 : ¬ t ≥ (k : Int) := by omega
  simp only [cLoad1_ptr, ld1_eq, hcB, hcB1, ob_some, asLK_int, cBin_lss, e1, decide_false, gd_false, cBin_geq, e2, cPick_eq, Bool.false_eq_true, if_false]
  have hv := H'
  obtain ⟨a0, c0, hv, _⟩ := hv
  rw [g107_C1]
  simp only [updL_cons, updL_nil, ↓reduceIte, Nat.reduceEqDiff, cIf_eq, Bool.false_eq_true, if_false, cFieldAddr_ptr, Nat.zero_add, cLoad1_ptr, ld1_eq, hcB, ob_some]
  rw [hv]
  simp only [asLK_slc, cLenS_eq]
  rw [← hv]
  refine ev107_loop (evF EK X n) n gB H' g _ (fun o => ∃ h', o = some (.ret (.bool true) h') ∧ Exh h h') ?_ l.length 0 n _ (by omega) (by omega) (by omega) (by simp [updL_cons]) (by simp [updL_cons]) (by simp [updL_cons]) (by simp [updL_cons])
  intro σ'
  exact ⟨h1, by simp [g107_C4, updL_cons], E⟩
theorem ev106 (X : Call) (n : Nat) {h : AHeap} {Bk : Nat} {vc : Value} {l : List Int} {t : Int} {k : Nat} (hb : h.cell? Bk 0 = some (I k)) (hbn : Bk < h.next) (H : NL h vc l) (g : GC l) (ht : 0 ≤ t ∧ t < k) (hn : 70 ≤ n) :
    ∃ h', evF EK X (n + 2) 106 [.agg [vc, I t].toArray, P0 Bk 0] h = some (.ret (.bool false) h') ∧ Exh h h' := by
  rw [evF_B _ _ _ _ _ _ (by kernel_rfl), g106_eq, g106]
  have gB := get_new_self h (.cells [vc, I t] 106 none false)
  have E := Exh.new h (.cells [vc, I t] 106 none false)
  have H' := H.ext E
  obtain ⟨a0, c0, hv, _⟩ := id H
  simp only [st0_zero, st0_succ, cNew_eq, Value.cells, List.toList_toArray]
  generalize h.new (.cells [vc, I t] 106 none false) = h1 at *
  have hcB : h1.cell? h.next 0 = some vc := by rw [cell?_of gB]; rfl
  have hcB1 : h1.cell? h.next 1 = some (I t) := by rw [cell?_of gB]; rfl
  have hb' : h1.cell? Bk 0 = some (I k) := by rw [← hb]; exact cell?_keep (E.keep _ hbn)
  obtain ⟨h2, e2, E2⟩ := ev107 X n H' g ht hn
  simp only [cLoadA_ptr, ldL_cons, ldL_nil, Nat.zero_add, ld1_eq, hcB, hcB1, ob_some, asLK_int]
  rw [hv]
  simp only [asLK_slc, cLoad1_ptr, ld1_eq, hb', ob_some, asLK_int]
  rw [← hv, cCall_ret e2]
  simp only [asRetL_one, asTIL_one, asLK_bool, cUn_not]
  exact ⟨h2, by simp [updL_cons], E.trans E2⟩
theorem ev109 (X : Call) (n : Nat) {h : AHeap} {Bk : Nat} {t : Int} {k : Nat} (hb : h.cell? Bk 0 = some (I k)) (ht : 0 ≤ t ∧ t < k) :
    evF EK X (n + 1) 109 [I t, P0 Bk 0] h = some (.ret (.bool false) h) := by
  rw [evF_B _ _ _ _ _ _ (by kernel_rfl), g109_eq, g109]
  have e1 : ¬ t < 0 := by omega
  have e2 : ¬ t ≥ (k : Int) := by omega
  simp only [st0_zero, st0_succ, cBin_lss, e1, decide_false, gd_false, cLoad1_ptr, ld1_eq, hb, ob_some, asLK_int, cBin_geq, e2, cPick_eq, Bool.false_eq_true, if_false, g109_C1]
  simp [updL_cons]
theorem ev136_loop (X : Call) (q lf : Nat) {h : AHeap} {v : Value} {l : List Int} {Bk k : Nat} (H : NL h v l) (ht : l.length ≤ 1000000) (hb : h.cell? Bk 0 = some (I k)) (g : ∀ t ∈ l, 0 ≤ t ∧ t < (k : Int)) (K : KS) (P : Option Ans → Prop)
    (k1 : ∀ σ', P (K (.exit 0) σ' h)) :
    ∀ (m i n : Nat) (σ : St), l.length - i = m → i ≤ l.length → m < n → σ 0 = v → σ 1 = .func (.func 109) #[] #[P0 Bk 0] → σ 7 = I l.length → σ 8 = I i →
    P (loopS (g136_L1 (evF EK X (q + 1)) lf) n σ h K) := by
  intro m
  induction m with
  | zero =>
    intro i n σ hm hi hn h0 h1 h7 h8
    obtain ⟨n, rfl⟩ : ∃ q, n = q + 1 := ⟨n - 1, by omega⟩
    have hil : i = l.length := by omega
    subst hil
    rw [loopS_succ, g136_L1]
    simp only [h7, h8, cBin_lss, Int.lt_irrefl, decide_false, cIf_eq, Bool.false_eq_true, if_false, loopK_exit]
    exact k1 _
  | succ m ih =>
    intro i n σ hm hi hn h0 h1 h7 h8
    obtain ⟨n, rfl⟩ : ∃ q, n = q + 1 := ⟨n - 1, by omega⟩
    have hil : i < l.length := by omega
    obtain ⟨a, c, rfl, hk⟩ := H
    obtain ⟨F, rfl, _, hc⟩ := hk i l[i] (List.getElem?_eq_getElem hil)
    have hg := g _ (List.getElem_mem hil)
    generalize l[i] = x at *
    have h1' : ((i : Int) < (l.length : Int)) := by omega
    rw [loopS_succ, g136_L1]
    simp only [h0, h1, h7, h8, cBin_lss, h1', decide_true, cIf_eq, if_true, cIdxS_slice, idx?_nat hil, ob_some, Nat.zero_add, Nat.mul_one, cLoad1_ptr, ld1_eq, hc, asLK_int, cCallV_func, List.nil_append, List.cons_append, c109]
    rw [cCall_ret (ev109 X q hb hg)]
    simp only [asRetL_one, asTIL_one, asLK_bool, cIf_eq, Bool.false_eq_true, if_false]
    rw [cBin_add _ _ _ (by omega) (by omega), loopK_normal]
    exact ih (i + 1) n _ (by omega) (by omega) (by omega) (by simp [updL_cons, h0]) (by simp [updL_cons, h1]) (by simp [updL_cons, h7]) (by simp [updL_cons])
theorem ev108 (X : Call) (n : Nat) {h : AHeap} {v : Value} {l : List Int} {Bk k : Nat} (H : NL h v l) (ht : l.length ≤ 1000000) (hb : h.cell? Bk 0 = some (I k)) (g : ∀ t ∈ l, 0 ≤ t ∧ t < (k : Int)) (hn : l.length < n) :
    evF EK X (n + 3) 108 [v, .func (.func 109) #[] #[P0 Bk 0]] h = some (.ret (.bool false) h) := by
  have e136 : evF EK X (n + 2) 136 [v, .func (.func 109) #[] #[P0 Bk 0]] h = some (.ret (I (-1)) h) := by
    rw [evF_B _ _ _ _ _ _ (by kernel_rfl), g136_eq, g136]
    obtain ⟨a0, c0, hv, _⟩ := id H
    simp only [st0_zero]
    rw [hv]
    simp only [cLenS_eq]
    rw [← hv]
    refine ev136_loop X n (n + 1) H ht hb g _ (fun o => o = some (.ret (I (-1)) h)) (fun σ' => ?_) l.length 0 (n + 1) _ (by omega) (by omega) (by omega) (by simp [updL_cons]) (by simp [updL_cons]) (by simp [updL_cons]) (by simp [updL_cons])
    simp [g136_C2, updL_cons]
  rw [evF_B _ _ _ _ _ _ (by kernel_rfl), g108_eq, g108]
  simp only [st0_zero, st0_succ]
  rw [cCall_ret e136]
  simp only [asRetL_one, asTIL_one, asLK_int, cBin_geq]
  simp [updL_cons]
theorem ev105 (X : Call) (n : Nat) {h : AHeap} {v : Value} {k0 i : Nat} {st : NS} {S : Nat} {ve vf : Value} {Bk k : Nat} (T : StAt h v k0 i st S ve vf) (hb : h.cell? Bk 0 = some (I k)) (hbn : Bk < h.next) (g : ∀ e ∈ st.edges, GC e.1 ∧ 0 ≤ e.2 ∧ e.2 < (k : Int)) (hn : 70 ≤ n) :
    ∃ h', evF EK X (n + 4) 105 [ve, .func (.func 106) #[] #[P0 Bk 0]] h = some (.ret (.bool false) h') ∧ Exh h h' := by
  have e135 : ∃ h', evF EK X (n + 3) 135 [ve, .func (.func 106) #[] #[P0 Bk 0]] h = some (.ret (I (-1)) h') ∧ Exh h h' := by
    rw [evF_B _ _ _ _ _ _ (by kernel_rfl), g135_eq, g135]
    obtain ⟨m, rfl⟩ : ∃ m, n = m + 2 := ⟨n - 2, by omega⟩
    rcases T.edge with ⟨e1, rfl⟩ | ⟨cls, to, G, vc, e1, rfl, hG, hg, hnl⟩
    · refine ⟨h, ?_, Exh.refl h⟩
      simp only [st0_zero, st0_succ, cLenS_eq]
      rw [loopS_succ, g135_L1]
      simp only [updL_cons, updL_nil, ↓reduceIte, Nat.reduceEqDiff, cBin_lss, show ¬ ((0 : Int) < ((0 : Nat) : Int)) by decide, decide_false, cIf_eq, Bool.false_eq_true, if_false, loopK_exit]
      simp [g135_C2, updL_cons]
    · obtain ⟨q1, q2⟩ := g (cls, to) (by rw [e1]; simp)
      obtain ⟨h2, e2, E2⟩ := ev106 X (m + 2) hb hbn hnl q1 q2 hn
      refine ⟨h2, ?_, E2⟩
      have hg0 : h.cell? G 0 = some vc := by rw [cell?_of hg]; rfl
      have hg1 : h.cell? G 1 = some (I to) := by rw [cell?_of hg]; rfl
      have x1 : idx? (0 : Int) 1 = some 0 := rfl
      obtain ⟨a0, c0, hv, _⟩ := id hnl
      simp only [st0_zero, st0_succ, cLenS_eq]
      rw [loopS_succ, g135_L1]
      simp only [updL_cons, updL_nil, ↓reduceIte, Nat.reduceEqDiff, cBin_lss, show ((0 : Int) < ((1 : Nat) : Int)) by decide, decide_true, cIf_eq, if_true, st0_zero, st0_succ, cIdxS_slice, x1, ob_some, Nat.zero_mul, Nat.add_zero, Nat.zero_add, cLoadA_ptr, ldL_cons, ldL_nil, ld1_eq, hg0, hg1, asLK_int]
      rw [hv]
      simp only [asLK_slc, cCallV_func, List.nil_append, List.cons_append, c106]
      rw [← hv, cCall_ret e2]
      simp only [asRetL_one, asTIL_one, asLK_bool, cIf_eq, Bool.false_eq_true, if_false]
      rw [cBin_add _ _ _ (by omega) (by omega), loopK_normal, loopS_succ, g135_L1]
      simp only [updL_cons, updL_nil, ↓reduceIte, Nat.reduceEqDiff, cBin_lss, show ¬ ((0 : Int) + 1 < ((1 : Nat) : Int)) by decide, decide_false, cIf_eq, Bool.false_eq_true, if_false, loopK_exit]
      simp [g135_C2, updL_cons]
  obtain ⟨h', e, E⟩ := e135
  refine ⟨h', ?_, E⟩
  rw [evF_B _ _ _ _ _ _ (by kernel_rfl), g105_eq, g105]
  simp only [st0_zero, st0_succ]
  rw [cCall_ret e]
  simp only [asRetL_one, asTIL_one, asLK_int, cBin_geq]
  simp [updL_cons]
end Go.Amb
end

section
/- Automata that are read: nfa.Check. -/
set_option linter.unusedVariables false
set_option linter.unusedSimpArgs false
namespace Go.Amb
open Go.Proofs

/-- A good automaton. -/
structure AG (r : Nat × Nat × List NS) : Prop where
  i : r.1 < r.2.2.length
  o : r.2.1 < r.2.2.length
  e : ∀ st ∈ r.2.2, ∀ e ∈ st.edges, GC e.1 ∧ 0 ≤ e.2 ∧ e.2 < (r.2.2.length : Int)
  f : ∀ st ∈ r.2.2, ∀ t ∈ st.free, 0 ≤ t ∧ t < (r.2.2.length : Int)
  fl : ∀ st ∈ r.2.2, st.free.length ≤ 1000000

theorem ev67_loop (X : Call) (q lf : Nat) {h0 : AHeap} {v : Value} {s : List NS} {Bk : Nat} (hbn : Bk < h0.next) (hb : h0.cell? Bk 0 = some (I s.length)) (H : SA h0 v s) (hs : s.length ≤ 120)
    (ge : ∀ st ∈ s, ∀ e ∈ st.edges, GC e.1 ∧ 0 ≤ e.2 ∧ e.2 < (s.length : Int)) (gf : ∀ st ∈ s, ∀ t ∈ st.free, 0 ≤ t ∧ t < (s.length : Int)) (gl : ∀ st ∈ s, st.free.length ≤ 1000000) (hq : 1000010 ≤ q) (K : KS) (P : Option Ans → Prop)
    (k1 : ∀ σ' h', Exh h0 h' → P (K (.exit 0) σ' h')) :
    ∀ (m i n : Nat) (σ : St) (h : AHeap), Exh h0 h → s.length - i = m → i ≤ s.length → m < n → σ 4 = P0 Bk 0 → σ 33 = v → σ 34 = I s.length → σ 35 = I i →
    P (loopS (g67_L2 (evF EK X (q + 4)) lf) n σ h K) := by
  intro m
  induction m with
  | zero =>
    intro i n σ h E hm hi hn h4 h33 h34 h35
    obtain ⟨n, rfl⟩ : ∃ q, n = q + 1 := ⟨n - 1, by omega⟩
    have hil : i = s.length := by omega
    subst hil
    rw [loopS_succ, g67_L2]
    simp only [h34, h35, cBin_lss, Int.lt_irrefl, decide_false, cIf_eq, Bool.false_eq_true, if_false, loopK_exit]
    exact k1 _ _ E
  | succ m ih =>
    intro i n σ h E hm hi hn h4 h33 h34 h35
    obtain ⟨n, rfl⟩ : ∃ q, n = q + 1 := ⟨n - 1, by omega⟩
    have hil : i < s.length := by omega
    have hmem := List.getElem_mem hil
    have hget : s[i]? = some s[i] := List.getElem?_eq_getElem hil
    generalize s[i] = st at *
    obtain ⟨S, ve, vf, T⟩ := (H.ext E).2 i st hget
    obtain ⟨⟨ae, ce, hse⟩, _⟩ := T.se
    obtain ⟨⟨af, cf, hsf⟩, _⟩ := T.sf
    have hv := T.v
    have h1' : ((i : Int) < (s.length : Int)) := by omega
    have E1 := Exh.new h (.cells [.slice none 0 0, .slice none 0 0] 102 none false)
    have hst2 := st2 (get_new_self h (.cells [.slice none 0 0, .slice none 0 0] 102 none false)) ⟨_, _, _, hse⟩ ⟨_, _, _, hsf⟩
    have E2 : Exh h ((h.new (.cells [.slice none 0 0, .slice none 0 0] 102 none false)).set h.next (.cells [ve, vf] 102 none false)) :=
      ⟨by simp, fun j hj => by rw [AHeap.get_set_ne _ _ (by omega)]; exact E1.keep j hj⟩
    have gS : ((h.new (.cells [.slice none 0 0, .slice none 0 0] 102 none false)).set h.next (.cells [ve, vf] 102 none false)).get h.next = .cells [ve, vf] 102 none false := AHeap.get_set_same _ _ _
    have nS : h.next < ((h.new (.cells [.slice none 0 0, .slice none 0 0] 102 none false)).set h.next (.cells [ve, vf] 102 none false)).next := by simp
    rw [loopS_succ, g67_L2]
    simp only [h4, h33, h34, h35, hv, cBin_lss, h1', decide_true, cIf_eq, if_true, cIdxS_slice, idx?_nat hil, ob_some, Nat.zero_add, cLoadA_ptr, T.ld, cNew_eq, hst2]
    generalize (h.new (.cells [.slice none 0 0, .slice none 0 0] 102 none false)).set h.next (.cells [ve, vf] 102 none false) = h1 at *
    have EE := E.trans E2
    have c0 : h1.cell? h.next 0 = some ve := by rw [cell?_of gS]; rfl
    have hb1 : h1.cell? Bk 0 = some (I s.length) := by rw [← hb]; exact cell?_keep (EE.keep _ hbn)
    obtain ⟨h2, e2, E3⟩ := ev105 X q (T.ext E2) hb1 (Nat.lt_of_lt_of_le hbn EE.next) (ge st hmem) (by omega)
    simp only [cFieldAddr_ptr, Nat.zero_add, cLoad1_ptr, ld1_eq, c0, ob_some]
    rw [hse]
    simp only [asLK_slc]
    rw [← hse, cCall_ret e2]
    have c1 : h2.cell? h.next 1 = some vf := by rw [cell?_keep (E3.keep _ nS), cell?_of gS]; rfl
    have EE2 := EE.trans E3
    have hb2 : h2.cell? Bk 0 = some (I s.length) := by rw [← hb]; exact cell?_keep (EE2.keep _ hbn)
    have e3 := ev108 X (q + 1) (T.ext (E2.trans E3)).nl (gl st hmem) hb2 (gf st hmem) (by have := gl st hmem; omega)
    simp only [asRetL_one, asTIL_one, asLK_bool, gd_false, cFieldAddr_ptr, Nat.zero_add, cLoad1_ptr, ld1_eq, c1, ob_some]
    rw [hsf]
    simp only [asLK_slc]
    rw [← hsf, cCall_ret e3]
    simp only [asRetL_one, asTIL_one, asLK_bool, cPick_eq, Bool.false_eq_true, if_false, g67_C3, updL_cons, updL_nil, ↓reduceIte, Nat.reduceEqDiff, cIf_eq, h35]
    rw [cBin_add _ _ _ (by omega) (by omega), loopK_normal]
    exact ih (i + 1) n _ h2 EE2 (by omega) (by omega) (by omega) (by simp [updL_cons, h4]) (by simp [updL_cons, h33]) (by simp [updL_cons, h34]) (by simp [updL_cons])
theorem ev67 (X : Call) (n : Nat) {h : AHeap} {v : Value} {r : Nat × Nat × List NS} (H : SA h v r.2.2) (g : AG r) (hs : r.2.2.length ≤ 120) (hn : 1000010 ≤ n) :
    ∃ h', evF EK X (n + 5) 67 [.agg [v, I r.1, I r.2.1].toArray] h = some (.ret (.tuple #[I 0, I 0]) h') ∧ Exh h h' := by
  rw [evF_B _ _ _ _ _ _ (by kernel_rfl), g67_eq, g67]
  obtain ⟨ad, cp, hv⟩ := H.1
  have g1 := g.i
  have g2 := g.o
  have gB := get_new_self h (.cells [v, I r.1, I r.2.1] 67 none false)
  have E := Exh.new h (.cells [v, I r.1, I r.2.1] 67 none false)
  simp only [st0_zero, cNew_eq, Value.cells, List.toList_toArray, cFieldAddr_ptr, Nat.zero_add]
  have nB : h.next < (h.new (.cells [v, I r.1, I r.2.1] 67 none false)).next := by simp
  generalize h.new (.cells [v, I r.1, I r.2.1] 67 none false) = h1 at *
  have hst : (h1.new (.cells [.int .i64 0] 3 none false)).st h1.next 0 [I r.2.2.length] = some ((h1.new (.cells [.int .i64 0] 3 none false)).set h1.next (.cells [I r.2.2.length] 3 none false)) := by
    rw [st_of (get_new_self _ _) (by simp) rfl]; rfl
  have E2 : Exh h1 ((h1.new (.cells [.int .i64 0] 3 none false)).set h1.next (.cells [I r.2.2.length] 3 none false)) :=
    ⟨by simp, fun j hj => by rw [AHeap.get_set_ne _ _ (by omega), get_new_lt _ hj]⟩
  have gK : ((h1.new (.cells [.int .i64 0] 3 none false)).set h1.next (.cells [I r.2.2.length] 3 none false)).get h1.next = .cells [I r.2.2.length] 3 none false := AHeap.get_set_same _ _ _
  have nK : h1.next < ((h1.new (.cells [.int .i64 0] 3 none false)).set h1.next (.cells [I r.2.2.length] 3 none false)).next := by simp
  have hc0 : h1.cell? h.next 0 = some v := by rw [cell?_of gB]; rfl
  simp only [cLoad1_ptr, ld1_eq, hc0, ob_some]
  rw [hv]
  simp only [asLK_slc, cLenS_eq, cNew_eq]
  rw [← hv, cStore_ptr _ _ _ _ _ (by simp [Value.cells])]
  simp only [Value.cells, List.toList_toArray, hst, ob_some]
  generalize (h1.new (.cells [.int .i64 0] 3 none false)).set h1.next (.cells [I r.2.2.length] 3 none false) = h2 at *
  have gB2 : h2.get h.next = .cells [v, I r.1, I r.2.1] 67 none false := by rw [E2.keep _ nB]; exact gB
  have d0 : h2.cell? h.next 0 = some v := by rw [cell?_of gB2]; rfl
  have d1 : h2.cell? h.next 1 = some (I r.1) := by rw [cell?_of gB2]; rfl
  have d2 : h2.cell? h.next 2 = some (I r.2.1) := by rw [cell?_of gB2]; rfl
  have dK : h2.cell? h1.next 0 = some (I r.2.2.length) := by rw [cell?_of gK]; rfl
  have x1 : ¬ ((r.2.2.length : Int) > 4096) := by omega
  have x2 : ¬ ((r.1 : Int) < 0) := by omega
  have x3 : ¬ ((r.2.1 : Int) < 0) := by omega
  have x4 : ¬ ((r.1 : Int) ≥ (r.2.2.length : Int)) := by omega
  have x5 : ¬ ((r.2.1 : Int) ≥ (r.2.2.length : Int)) := by omega
  simp only [cLoad1_ptr, ld1_eq, dK, ob_some, asLK_int, cBin_gtr, x1, decide_false, cIf_eq, Bool.false_eq_true, if_false, cFieldAddr_ptr, Nat.zero_add, d1, d2, cBin_lss, x2, x3, gd_false, cBin_geq, x4, x5, cPick_eq]
  rw [g67_C1]
  simp only [updL_cons, updL_nil, ↓reduceIte, Nat.reduceEqDiff, cIf_eq, Bool.false_eq_true, if_false, cFieldAddr_ptr, Nat.zero_add, cLoad1_ptr, ld1_eq, d0, ob_some]
  rw [hv]
  simp only [asLK_slc, cLenS_eq]
  rw [← hv]
  have H2 := H.ext (E.trans E2)
  refine ev67_loop X n (n + 4) nK dK H2 hs g.e g.f g.fl hn _ (fun o => ∃ h', o = some (.ret (.tuple #[I 0, I 0]) h') ∧ Exh h h') (fun σ' h' E' => ?_) r.2.2.length 0 (n + 4) _ h2 (Exh.refl _) (by omega) (by omega) (by omega) (by simp [updL_cons]) (by simp [updL_cons]) (by simp [updL_cons]) (by simp [updL_cons])
  exact ⟨h', by simp [g67_C4, updL_cons], (E.trans E2).trans E'⟩
theorem ev72 (X : Call) (n : Nat) {h : AHeap} {v : Value} {r : Nat × Nat × List NS} (H : SA h v r.2.2) (g : AG r) (hs : r.2.2.length ≤ 120) (hn : 1000010 ≤ n) :
    ∃ h', evF EK X (n + 6) 72 [.agg [v, I r.1, I r.2.1].toArray] h = some (.ret (.bool true) h') ∧ Exh h h' := by
  rw [evF_B _ _ _ _ _ _ (by kernel_rfl), g72_eq, g72]
  obtain ⟨ad, cp, hv⟩ := H.1
  have gB := get_new_self h (.cells [v, I r.1, I r.2.1] 67 none false)
  have E := Exh.new h (.cells [v, I r.1, I r.2.1] 67 none false)
  simp only [st0_zero, cNew_eq, Value.cells, List.toList_toArray]
  generalize h.new (.cells [v, I r.1, I r.2.1] 67 none false) = h1 at *
  obtain ⟨h2, e2, E2⟩ := ev67 X n (H.ext E) g hs hn
  refine ⟨h2, ?_, E.trans E2⟩
  simp only [cLoadA_ptr, ld3 gB ⟨_, _, _, hv⟩]
  rw [cCall_ret e2]
  simp only [asRetL_two, asResL_cons, asResL_nil, asTIL_one, asLK_int, cExtract_eq, List.toList_toArray, List.getElem?_cons_zero, List.getElem?_cons_succ, ob_some, cBin_eql, decide_true]
  simp [updL_cons]
end Go.Amb
end

section
/- States reached without a class: the plain law of the work list. -/
set_option linter.unusedVariables false
namespace Go.Amb

def addF (x : List Bool × List Int) (t : Int) : List Bool × List Int := if 0 ≤ t ∧ x.1[t.toNat]? = some false then (x.1.set t.toNat true, x.2 ++ [t]) else x
def closeF (s : List NS) : Nat → List Bool × List Int → List Bool
  | 0, x => x.1
  | _ + 1, (bs, []) => bs
  | f + 1, (bs, t :: r) => closeF s f ((nsA s t.toNat).free.foldl addF (bs, r))
def falses (bs : List Bool) : Nat := (bs.filter (fun b => !b)).length
theorem falses_le (bs : List Bool) : falses bs ≤ bs.length := List.length_filter_le _ _
theorem falses_set : ∀ (bs : List Bool) (i : Nat), bs[i]? = some false → falses (bs.set i true) + 1 = falses bs := by
  intro bs
  induction bs with
  | nil => intro i h; simp at h
  | cons b bs ih =>
    intro i h
    cases i with
    | zero => simp at h; subst h; simp [falses]
    | succ i =>
      simp at h
      have := ih i h
      cases b <;> simp [falses] at this ⊢ <;> omega
theorem falses_rep (n : Nat) : falses (List.replicate n false) = n := by simp [falses]
abbrev On (bs : List Bool) (x : Nat) : Prop := bs[x]? = some true
theorem on_set {bs : List Bool} {i x : Nat} (hi : i < bs.length) : On (bs.set i true) x ↔ On bs x ∨ x = i := by
  unfold On
  rw [List.getElem?_set]
  by_cases e : i = x
  · subst e; simp [hi]
  · simp only [e, if_false]; exact ⟨.inl, fun h => h.elim id fun q => absurd q.symm e⟩
structure Added (x y : List Bool × List Int) (ts : List Int) : Prop where
  len : y.1.length = x.1.length
  mono : ∀ i, On x.1 i → On y.1 i
  new : ∀ i, On y.1 i → On x.1 i ∨ ((i : Int) ∈ ts ∧ (i : Int) ∈ y.2)
  all : ∀ t ∈ ts, 0 ≤ t → t < x.1.length → On y.1 t.toNat
  todo : ∀ t ∈ y.2, t ∈ x.2 ∨ (0 ≤ t ∧ On y.1 t.toNat)
  keep : ∀ t ∈ x.2, t ∈ y.2
  sum : y.2.length + falses y.1 = x.2.length + falses x.1
theorem added_nil (x : List Bool × List Int) : Added x x [] := ⟨rfl, fun _ h => h, fun _ h => .inl h, (by simp), fun t h => .inl h, fun t h => h, rfl⟩
theorem addF_added (x : List Bool × List Int) (t : Int) : Added x (addF x t) [t] := by
  unfold addF
  split
  · rename_i h
    obtain ⟨h1, h2⟩ := h
    have hi : t.toNat < x.1.length := (List.getElem?_eq_some_iff.1 h2).1
    have := falses_set _ _ h2
    refine ⟨by simp, fun i hi' => (on_set hi).2 (.inl hi'), fun i hi' => ?_, fun u hu h3 h4 => ?_, fun u hu => ?_, fun u hu => by simp [hu], by simp; omega⟩
    · rcases (on_set hi).1 hi' with q | q
      · exact .inl q
      · have : (i : Int) = t := by omega
        right; simp [this]
    · simp at hu; subst hu; exact (on_set hi).2 (.inr rfl)
    · simp at hu
      rcases hu with hu | rfl
      · exact .inl hu
      · exact .inr ⟨h1, (on_set hi).2 (.inr rfl)⟩
  · rename_i h
    refine ⟨rfl, fun _ h => h, fun _ h => .inl h, fun u hu h3 h4 => ?_, fun t h => .inl h, fun t h => h, rfl⟩
    simp at hu; subst hu
    have hi : u.toNat < x.1.length := by omega
    have e := List.getElem?_eq_getElem hi
    unfold On
    rw [e] at h ⊢
    cases hb : x.1[u.toNat] with
    | true => rfl
    | false => rw [hb] at h; exact absurd ⟨h3, rfl⟩ h
theorem Added.trans {x y z : List Bool × List Int} {a b : List Int} (A : Added x y a) (B : Added y z b) : Added x z (a ++ b) := by
  refine ⟨by rw [B.len, A.len], fun i h => B.mono i (A.mono i h), fun i h => ?_, fun t ht h1 h2 => ?_, fun t ht => ?_, fun t ht => B.keep t (A.keep t ht), by rw [B.sum, A.sum]⟩
  · rcases B.new i h with h | ⟨h, h'⟩
    · rcases A.new i h with h | ⟨h, h'⟩
      · exact .inl h
      · exact .inr ⟨by simp [h], B.keep _ h'⟩
    · exact .inr ⟨by simp [h], h'⟩
  · rcases List.mem_append.1 ht with ht | ht
    · exact B.mono _ (A.all t ht h1 h2)
    · exact B.all t ht h1 (by rw [A.len]; exact h2)
  · rcases B.todo t ht with h | h
    · rcases A.todo t h with h | ⟨h, h'⟩
      · exact .inl h
      · exact .inr ⟨h, B.mono _ h'⟩
    · exact .inr h
theorem foldl_added : ∀ (ts : List Int) (x : List Bool × List Int), Added x (ts.foldl addF x) ts := by
  intro ts
  induction ts with
  | nil => intro x; exact added_nil x
  | cons t ts ih => intro x; exact (addF_added x t).trans (ih _)
theorem closeF_nil (s : List NS) (bs : List Bool) : ∀ f, closeF s f (bs, []) = bs
  | 0 => rfl
  | _ + 1 => rfl

def FRel (s : List NS) (x y : Nat) : Prop := (y : Int) ∈ (nsA s x).free
structure CInv (s : List NS) (l : List Int) (x : List Bool × List Int) : Prop where
  len : x.1.length = s.length
  r : ∀ i, On x.1 i → ∃ a ∈ l, 0 ≤ a ∧ a < s.length ∧ Star (FRel s) a.toNat i
  src : ∀ a ∈ l, 0 ≤ a → a < s.length → On x.1 a.toNat
  d : ∀ i, On x.1 i → (i : Int) ∈ x.2 ∨ ∀ t ∈ (nsA s i).free, On x.1 t.toNat
  t : ∀ t ∈ x.2, 0 ≤ t ∧ On x.1 t.toNat
theorem Star.snoc {α : Type} {R : α → α → Prop} {x y z : α} (a : Star R x y) (b : R y z) : Star R x z := a.trans (.one b)
theorem closeF_inv {s : List NS} (hs : ∀ i, i < s.length → ∀ t ∈ (nsA s i).free, 0 ≤ t ∧ t < (s.length : Int)) {l : List Int} : ∀ (f : Nat) (x : List Bool × List Int), x.2.length + falses x.1 ≤ f → CInv s l x → CInv s l (closeF s f x, []) := by
  intro f
  induction f with
  | zero =>
    intro x hf H
    have : x.2 = [] := List.eq_nil_of_length_eq_zero (by omega)
    obtain ⟨bs, td⟩ := x
    simp only at this
    subst this
    exact H
  | succ f ih =>
    intro x hf H
    obtain ⟨bs, td⟩ := x
    match td with
    | [] => exact H
    | t :: r =>
      obtain ⟨h1, h2, h3, h4, h5⟩ := H
      simp only at h1 h2 h3 h4 h5
      obtain ⟨t0, t1⟩ := h5 t (by simp)
      have hlt : t.toNat < bs.length := (List.getElem?_eq_some_iff.1 t1).1
      have A := foldl_added (nsA s t.toNat).free (bs, r)
      have fr := hs t.toNat (by omega)
      simp only [closeF]
      have hsum := A.sum
      simp only [List.length_cons] at hf hsum
      refine ih _ (by omega) ⟨by rw [A.len]; exact h1, fun i hi => ?_, fun a ha p q => A.mono _ (h3 a ha p q), fun i hi => ?_, fun u hu => ?_⟩
      · rcases A.new i hi with h | ⟨h, _⟩
        · exact h2 i h
        · obtain ⟨a, b, c, d, e⟩ := h2 _ t1
          exact ⟨a, b, c, d, e.snoc h⟩
      · rcases A.new i hi with h | ⟨_, h⟩
        · rcases h4 i h with q | q
          · rcases List.mem_cons.1 q with q | q
            · right
              intro u hu
              have e : t.toNat = i := by omega
              rw [← e] at hu
              exact A.all u hu (fr u hu).1 (by have := (fr u hu).2; simp only; omega)
            · exact .inl (A.keep _ q)
          · exact .inr fun u hu => A.mono _ (q u hu)
        · exact .inl h
      · rcases A.todo u hu with h | h
        · have := h5 u (List.mem_cons_of_mem _ h)
          exact ⟨this.1, A.mono _ this.2⟩
        · exact h
/-- All, and only those. -/
theorem closeF_spec {s : List NS} (hs : ∀ i, i < s.length → ∀ t ∈ (nsA s i).free, 0 ≤ t ∧ t < (s.length : Int)) (l : List Int) {f : Nat} (hf : s.length ≤ f) :
    (closeF s f (l.foldl addF (List.replicate s.length false, []))).length = s.length ∧
    ∀ i, On (closeF s f (l.foldl addF (List.replicate s.length false, []))) i ↔ ∃ a ∈ l, 0 ≤ a ∧ a < s.length ∧ Star (FRel s) a.toNat i := by
  have A := foldl_added l (List.replicate s.length false, [])
  have off : ∀ i, ¬ On (List.replicate s.length false) i := by
    intro i h
    unfold On at h
    rw [List.getElem?_replicate] at h
    split at h <;> cases h
  have hsum := A.sum
  simp only [falses_rep, List.length_nil] at hsum
  have C : CInv s l (l.foldl addF (List.replicate s.length false, [])) := by
    refine ⟨by rw [A.len]; simp, fun i hi => ?_, fun a ha p q => A.all a ha p (by simpa using q), fun i hi => ?_, fun t ht => ?_⟩
    · rcases A.new i hi with h | ⟨h, _⟩
      · exact absurd h (off i)
      · have hi' : i < s.length := by have := (List.getElem?_eq_some_iff.1 hi).1; rw [A.len] at this; simpa using this
        exact ⟨i, h, by omega, by omega, .refl _⟩
    · rcases A.new i hi with h | ⟨_, h⟩
      · exact absurd h (off i)
      · exact .inl h
    · rcases A.todo t ht with h | h
      · cases h
      · exact h
  have R := closeF_inv hs f _ (by omega) C
  refine ⟨R.len, fun i => ⟨R.r i, ?_⟩⟩
  rintro ⟨a, ha, p, q, st⟩
  have h0 := R.src a ha p q
  revert h0
  generalize a.toNat = b at st
  induction st with
  | refl x => exact id
  | @step x y z g t ih =>
    intro h0
    refine ih ?_
    rcases R.d _ h0 with h | h
    · cases h
    · have := h _ g
      simpa using this
/-- The numbers of those that are on. -/
def memGo : Nat → List Bool → List Int
  | _, [] => []
  | i, b :: r => if b = true then (i : Int) :: memGo (i + 1) r else memGo (i + 1) r
theorem mem_memGo : ∀ (bs : List Bool) (i : Nat) (x : Int), x ∈ memGo i bs ↔ ∃ k, On bs k ∧ x = ((i + k : Nat) : Int) := by
  intro bs
  induction bs with
  | nil => intro i x; simp [memGo, On]
  | cons b bs ih =>
    intro i x
    have step : (∃ k, On (b :: bs) k ∧ x = ((i + k : Nat) : Int)) ↔ (b = true ∧ x = (i : Int)) ∨ ∃ k, On bs k ∧ x = ((i + 1 + k : Nat) : Int) := by
      constructor
      · rintro ⟨k, h, e⟩
        cases k with
        | zero => left; unfold On at h; simp at h; exact ⟨h, e⟩
        | succ k => right; unfold On at h ⊢; simp at h; exact ⟨k, h, by rw [e]; congr 1; omega⟩
      · rintro (⟨h, e⟩ | ⟨k, h, e⟩)
        · exact ⟨0, by unfold On; simp [h], e⟩
        · exact ⟨k + 1, by unfold On at h ⊢; simpa using h, by rw [e]; congr 1; omega⟩
    rw [step, ← ih (i + 1) x]
    cases b <;> simp [memGo]
theorem length_memGo : ∀ (bs : List Bool) (i : Nat), (memGo i bs).length ≤ bs.length := by
  intro bs
  induction bs with
  | nil => intro i; simp [memGo]
  | cons b bs ih => intro i; have := ih (i + 1); cases b <;> simp [memGo] <;> omega
end Go.Amb
end
