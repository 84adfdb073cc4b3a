/- Part of the proof by the abstract machine: no claim of its own. -/
import Derived.Test.YtnfncnchbogncaaDoorA18b
import Derived.Orders
set_option linter.unusedSimpArgs false
set_option linter.unusedVariables false
set_option linter.unnecessarySimpa false
set_option linter.unusedSectionVars false
/- The abstract machine, part 19: regions whose order is open. -/
set_option linter.unusedVariables false
namespace Go.Amb
open Go.RowKit

/-! ### What the checks say -/
theorem testBit_bsAt (bs : List Nat) : ∀ (l : List Edge) (s i : Nat), (l.foldl (fun s e => match Region.binds .any e with | true => s ||| (2 ^ e.on ||| bs.getD e.on 0) | false => s) s).testBit i = true →
    s.testBit i = true ∨ ∃ e ∈ l, Region.binds .any e = true ∧ (e.on = i ∨ (bs.getD e.on 0).testBit i = true) := by
  intro l
  induction l with
  | nil => intro s i h; exact .inl h
  | cons e l ih =>
    intro s i h
    simp only [List.foldl_cons] at h
    rcases ih _ _ h with h | ⟨e', he', hb, h⟩
    · split at h
      · rename_i hb
        rw [Nat.testBit_or, Nat.testBit_or, Bool.or_eq_true, Bool.or_eq_true] at h
        rcases h with h | h | h
        · exact .inl h
        · refine .inr ⟨e, List.mem_cons_self, hb, .inl ?_⟩
          rw [Nat.testBit_two_pow] at h
          simpa using h
        · exact .inr ⟨e, List.mem_cons_self, hb, .inr h⟩
      · exact .inl h
    · exact .inr ⟨e', List.mem_cons_of_mem _ he', hb, h⟩

/-- All that is carried out has what stands ahead of it behind it. -/
def Closed (ops : Array Oper) (D : Nat → Bool) : Prop := ∀ (j : Nat) (o : Oper), ops[j]? = some o → D j = true → ∀ e ∈ o.after, Region.binds .any e = true → D e.on = true

theorem backOk_at {ops : Array Oper} {bs : List Nat} (h : backOk ops bs = true) {j : Nat} {o : Oper} (ho : ops[j]? = some o) :
    bs.getD j 0 = bsAt bs o ∧ ∀ e ∈ o.after, Region.binds .any e = true → e.on < j := by
  have hj : j < ops.size := (Array.getElem?_eq_some_iff.1 ho).1
  have := List.all_eq_true.1 h j (List.mem_range.2 hj)
  simp only [ho, Bool.and_eq_true] at this
  refine ⟨Nat.eq_of_beq_eq_true this.1, fun e he hb => ?_⟩
  have h2 := List.all_eq_true.1 this.2 e (Array.mem_toList_iff.2 he)
  simp only [hb] at h2
  exact Nat.blt_eq.mp h2

theorem anc {ops : Array Oper} {bs : List Nat} (h : backOk ops bs = true) {D : Nat → Bool} (hD : Closed ops D) : ∀ (j : Nat) (o : Oper), ops[j]? = some o → (∀ e ∈ o.after, Region.binds .any e = true → D e.on = true) →
    ∀ i, (bs.getD j 0).testBit i = true → D i = true := by
  intro j
  induction j using Nat.strongRecOn with
  | _ j ih =>
    intro o ho hall i hi
    obtain ⟨h1, h2⟩ := backOk_at h ho
    rw [h1] at hi
    unfold bsAt at hi
    rcases testBit_bsAt bs _ _ _ hi with hi | ⟨e, he, hb, hi⟩
    · simp at hi
    · have he' : e ∈ o.after := Array.mem_toList_iff.1 he
      have hon := hall e he' hb
      rcases hi with rfl | hi
      · exact hon
      · have hlt : e.on < ops.size := Nat.lt_trans (h2 e he' hb) (Array.getElem?_eq_some_iff.1 ho).1
        have ho' : ops[e.on]? = some ops[e.on] := Array.getElem?_eq_getElem hlt
        exact ih e.on (h2 e he' hb) _ ho' (fun e' he'' hb' => hD e.on _ ho' hon e' he'' hb') i hi

/-- What the walk carries out, and whether it is memory that is laid in advance. -/
def flag (ops : Array Oper) : Bool → List Nat → List (Nat × Bool)
  | _, [] => []
  | ho, i :: r => match ops[i]? with
    | some o => (i, ho && isAl o) :: flag ops (ho && (isAl o || !isEv o)) r
    | none => []
theorem flag_false {ops : Array Oper} : ∀ (C : List Nat), ∀ y ∈ flag ops false C, y.2 = false := by
  intro C
  induction C with
  | nil => intro y hy; cases hy
  | cons i C ih =>
    intro y hy
    unfold flag at hy
    split at hy
    · rcases List.mem_cons.1 hy with rfl | hy
      · rfl
      · exact ih y (by simpa using hy)
    · cases hy
/-- One stands ahead of another in the order of the walk. -/
structure Ahead (ops : Array Oper) (bs : List Nat) (i j : Nat × Bool) : Prop where
  ne : i.1 ≠ j.1
  not : (bs.getD i.1 0).testBit j.1 = false
  ev : ∀ o, ops[i.1]? = some o → isEv o = true → i.2 = false → (bs.getD j.1 0).testBit i.1 = true ∧ j.2 = false

theorem ordOk_spec {ops : Array Oper} {bs : List Nat} : ∀ (C : List Nat) (ho : Bool) (done evs : List Nat), ordOk ops bs C ho done evs = true →
    (flag ops ho C).Pairwise (Ahead ops bs) ∧ ∀ j ∈ flag ops ho C, j.1 ∉ done ∧ j.1 < ops.size ∧ ∀ e ∈ evs, (bs.getD j.1 0).testBit e = true := by
  intro C
  induction C with
  | nil => intro ho done evs _; exact ⟨.nil, fun j hj => by cases hj⟩
  | cons i r ih =>
    intro ho done evs h
    unfold ordOk at h
    simp only [Bool.and_eq_true, Bool.not_eq_true'] at h
    obtain ⟨⟨⟨⟨h1, h2⟩, h3⟩, h4⟩, h5⟩ := h
    have h1' : i ∉ done := by simpa using h1
    have h2' : i < ops.size := Nat.blt_eq.mp h2
    have h4' := List.all_eq_true.1 h4
    unfold flag
    cases hi : ops[i]? with
    | none => exact ⟨.nil, fun j hj => by cases hj⟩
    | some o =>
      rw [hi] at h5
      simp only at h5 ⊢
      obtain ⟨g1, g2⟩ := ih _ _ _ h5
      have hev : ∀ e ∈ evs, e ∈ (bif isEv o && !(ho && isAl o) then i :: evs else evs) := by
        intro e he
        cases isEv o && !(ho && isAl o)
        · exact he
        · exact List.mem_cons_of_mem _ he
      refine ⟨List.pairwise_cons.2 ⟨fun j hj => ?_, g1⟩, fun j hj => ?_⟩
      · obtain ⟨q1, q2, q3⟩ := g2 j hj
        refine ⟨fun e => q1 (e ▸ List.mem_cons_self), ?_, fun o' ho' hv hf => ?_⟩
        · have := List.all_eq_true.1 h3 j.1 (List.mem_range.2 q2)
          rw [Bool.or_eq_true] at this
          rcases this with h | h
          · simpa using h
          · exact absurd (by simpa using h) (fun hh => q1 (List.mem_cons_of_mem _ hh))
        · simp only at ho' hf
          rw [hi] at ho'
          cases ho'
          refine ⟨q3 i ?_, ?_⟩
          · simp only [hv, hf, Bool.not_false, Bool.and_true, cond_true]; exact List.mem_cons_self
          · have hz : (ho && (isAl o || !isEv o)) = false := by
              rw [hv]
              simpa using hf
            rw [hz] at hj
            exact flag_false r j hj
      · rcases List.mem_cons.1 hj with rfl | hj
        · exact ⟨h1', h2', h4'⟩
        · obtain ⟨q1, q2, q3⟩ := g2 j hj
          exact ⟨fun hh => q1 (List.mem_cons_of_mem _ hh), q2, fun e he => q3 e (hev e he)⟩

theorem rowsOk_at {ops : Array Oper} {bs : List Nat} : ∀ {n : Nat}, rowsOk ops bs n = true → ∀ {i j : Nat} {x y : Oper}, i < j → j < n → ops[i]? = some x → ops[j]? = some y → (bs.getD j 0).testBit i = false → clash ops x y = false := by
  intro n
  induction n with
  | zero => intro _ i j x y _ hj; omega
  | succ n ih =>
    intro h i j x y hij hj hx hy hb
    unfold rowsOk at h
    rw [Bool.and_eq_true] at h
    by_cases e : j = n
    · subst e
      have := List.all_eq_true.1 h.2 i (List.mem_range.2 hij)
      simp only [hb, hx, hy, Bool.false_or, Bool.not_eq_true'] at this
      exact this
    · exact ih h.1 hij (by omega) hx hy hb

theorem clash_spec {ops : Array Oper} {x y : Oper} (h : clash ops x y = false) :
    (∀ d, x.dst = some d → d ∉ namesOf ops y) ∧ (∀ d, y.dst = some d → d ∉ namesOf ops x) ∧ (∀ d, x.dst = some d → y.dst ≠ some d) := by
  unfold clash at h
  rw [Bool.or_eq_false_iff] at h
  obtain ⟨h1, h2⟩ := h
  refine ⟨fun d hd hm => ?_, fun d hd hm => ?_, fun d hd hy => ?_⟩
  · rw [hd] at h1; simp only [Bool.or_eq_false_iff] at h1; simp [hm] at h1
  · rw [hd] at h2; simp [hm] at h2
  · rw [hd] at h1; simp only [Bool.or_eq_false_iff] at h1; simp [hy] at h1

/-- Two of which neither stands ahead of the other by edges. -/
theorem free2 {ops : Array Oper} {bs : List Nat} (h : rowsOk ops bs ops.size = true) {i j : Nat} {x y : Oper} (hx : ops[i]? = some x) (hy : ops[j]? = some y) (hne : i ≠ j)
    (h1 : (bs.getD j 0).testBit i = false) (h2 : (bs.getD i 0).testBit j = false) : (∀ d, x.dst = some d → d ∉ namesOf ops y) ∧ (∀ d, x.dst = some d → y.dst ≠ some d) := by
  rcases Nat.lt_or_gt_of_ne hne with hlt | hlt
  · obtain ⟨a, b, c⟩ := clash_spec (rowsOk_at h hlt (Array.getElem?_eq_some_iff.1 hy).1 hx hy h1)
    exact ⟨a, c⟩
  · obtain ⟨a, b, c⟩ := clash_spec (rowsOk_at h hlt (Array.getElem?_eq_some_iff.1 hx).1 hy hx h2)
    exact ⟨b, fun d hd hy => c d hy hd⟩

/-! ### Guards -/
def wantA (ops : Array Oper) (o : Oper) (tm : PT Value) : Option Bool := match o.guard with
  | none => some true
  | some (j, want) => ob (gslot ops j) fun d => match opnd tm (.tmp d) with
    | .bool b => some (b == want)
    | .tuple _ => some false
    | _ => none
def SameT (a b : PT Value) : Prop := ∀ t, opnd a (.tmp t) = opnd b (.tmp t)
theorem SameT.set {tm : PT Value} {t : Nat} {v : Value} (ht : opnd tm (.tmp t) = v) : SameT (tm.set t (some v)) tm := fun q => by
  by_cases e : q = t
  · subst e; rw [ht]; simp [Amb.opnd, PT.get_set]
  · simp only [Amb.opnd, PT.get_set]; rw [if_neg e]
theorem evGuard_eq {ops : Array Oper} {o : Oper} {tm : PT Value} {yes no : PT Value → Option Ans} {r : Ans} (e : evGuard ops o tm yes no = some r) :
    ∃ tm', SameT tm' tm ∧ ((wantA ops o tm = some true ∧ yes tm' = some r) ∨ (wantA ops o tm = some false ∧ no tm' = some r)) := by
  unfold evGuard at e
  unfold wantA
  cases hg : o.guard with
  | none => rw [hg] at e; exact ⟨tm, fun _ => rfl, .inl ⟨rfl, e⟩⟩
  | some p =>
    obtain ⟨j, want⟩ := p
    rw [hg] at e
    simp only at e ⊢
    obtain ⟨d, ed, e1⟩ := ob_eq e
    simp only [ed, ob_some]
    cases hb : opnd tm (.tmp d) <;> rw [hb] at e1 <;> simp only at e1 ⊢
    case bool b =>
      cases b <;> cases want
      · exact ⟨_, SameT.set hb, .inl ⟨rfl, e1⟩⟩
      · exact ⟨_, SameT.set hb, .inr ⟨rfl, e1⟩⟩
      · exact ⟨_, SameT.set hb, .inr ⟨rfl, e1⟩⟩
      · exact ⟨_, SameT.set hb, .inl ⟨rfl, e1⟩⟩
    case tuple c => exact ⟨_, fun _ => rfl, .inr ⟨trivial, e1⟩⟩
    all_goals cases e1
theorem wantA_congr {ops : Array Oper} {o : Oper} {tm tm' : PT Value} (h : ∀ t ∈ namesOf ops o, opnd tm (.tmp t) = opnd tm' (.tmp t)) : wantA ops o tm = wantA ops o tm' := by
  unfold wantA
  unfold namesOf at h
  split
  · rfl
  · rename_i j want hg
    rw [hg] at h
    cases hs : gslot ops j with
    | none => rfl
    | some d =>
      simp only [ob_some]
      rw [h d (List.mem_append_right _ (by simp [hs]))]
theorem opnd_congr {ops : Array Oper} {o : Oper} {tm tm' : PT Value} (h : ∀ t ∈ namesOf ops o, opnd tm (.tmp t) = opnd tm' (.tmp t)) : ∀ x ∈ o.op.operands, opnd tm x = opnd tm' x := by
  intro x hx
  cases x with
  | tmp t => exact h t (List.mem_append_left _ (List.mem_filterMap.2 ⟨.tmp t, Array.mem_toList_iff.2 hx, rfl⟩))
  | const v => rfl
  | global g => rfl
  | func f => rfl

theorem wantA_real {nt : Nat} {m : MP} {ops : Array Oper} {o : Oper} {tm : PT Value} {a : Act} {b : Bool} (h : AHeap) (T : TRel nt m tm a)
    (hg : (match o.guard with | none => true | some (j, _) => match gslot ops j with | some d => Nat.blt d nt | none => true) = true) (hw : wantA ops o tm = some b) : Region.wanted o (yielded ops a.tmps) = b := by
  have e : evGuard ops o tm (fun _ => some (.ret (.bool true) h)) (fun _ => some (.ret (.bool false) h)) = some (.ret (.bool b) h) := by
    unfold wantA at hw
    unfold evGuard
    cases hq : o.guard with
    | none => rw [hq] at hw; cases hw; rfl
    | some p =>
      obtain ⟨j, want⟩ := p
      rw [hq] at hw
      simp only at hw ⊢
      obtain ⟨d, ed, e1⟩ := ob_eq hw
      simp only [ed, ob_some]
      cases hb : opnd tm (.tmp d) <;> rw [hb] at e1 <;> simp only at e1 ⊢
      case bool x => cases e1; cases x <;> cases want <;> rfl
      case tuple c => cases e1; rfl
      all_goals cases e1
  rcases guard_sound T hg e with ⟨h1, _, _, h2⟩ | ⟨h1, _, _, h2⟩
  · cases h2; exact h1
  · cases h2; exact h1

/-! ### What the walk has seen of each -/
structure Rec where
  i : Nat
  ho : Bool
  o : Oper
  tm : PT Value
  h : AHeap
  w : Bool
  v : Value
  h' : AHeap

section
variable {P : Program} {E : Env} {G nt : Nat} {B : Kept} {call : Call} {ops : Array Oper} {bs : List Nat}

/-- Behind a record, what floats. -/
def flR (x : Rec) (fl : List Rec) : List Rec := bif x.w && (!isEv x.o || x.ho) then x :: fl else fl
/-- It would still yield what it yielded; it is still as it was laid. -/
def Good (E : Env) (call : Call) (y : Rec) (h : AHeap) : Prop := (y.ho = false → ∃ q, evOp E call y.o.op y.tm h rety nopan = some (.ret y.v q)) ∧ (y.ho = true → still E y.tm y.o.op y.v h = true)
/-- The walk's records are true. -/
def TrOk (E : Env) (call : Call) (ops : Array Oper) (bs : List Nat) : List Rec → List Rec → PT Value → AHeap → PT Value → AHeap → Prop
  | _, [], tm, h, tmF, hF => tm = tmF ∧ h = hF
  | fl, x :: rest, tm, h, tmF, hF => ops[x.i]? = some x.o ∧ SameT x.tm tm ∧ x.h = h ∧ wantA ops x.o tm = some x.w ∧
    (x.w = true → evOp E call x.o.op x.tm x.h rety nopan = some (.ret x.v x.h')) ∧ (x.w = false → x.v = undef ∧ x.h' = x.h) ∧
    (x.w = true → isEv x.o = true → ∀ y ∈ fl, (x.ho = true ∨ (bs.getD x.i 0).testBit y.i = false) → Good E call y x.h') ∧
    (x.ho = true → isAl x.o = true) ∧ (x.w = true → x.ho = true → Good E call x x.h') ∧
    TrOk E call ops bs (flR x fl) rest (put x.tm x.o.dst x.v) x.h' tmF hF

theorem isAl_ev {o : Oper} (h : isAl o = true) : isEv o = true := by
  unfold isAl at h
  split at h <;> rename_i e <;> first | (unfold isEv; rw [e]; rfl) | cases h

theorem recheck_eq {mask : Nat} {h' : AHeap} {cont : Option Ans} {r : Ans} : ∀ (fl : List Rec), (∀ y ∈ fl, ops[y.i]? = some y.o ∧ y.ho = isAl y.o) → recheck E call ops mask h' cont (fl.map fun y => (y.i, y.tm, y.v)) = some r →
    cont = some r ∧ ∀ y ∈ fl, mask.testBit y.i = false → Good E call y h' := by
  intro fl
  induction fl with
  | nil => intro _ e; exact ⟨e, fun y hy => by cases hy⟩
  | cons y fl ih =>
    intro ho e
    simp only [List.map_cons, recheck] at e
    have ho' := fun z hz => ho z (List.mem_cons_of_mem _ hz)
    split at e
    · rename_i hb
      obtain ⟨a, b⟩ := ih ho' e
      refine ⟨a, fun z hz hm => ?_⟩
      rcases List.mem_cons.1 hz with rfl | hz
      · rw [hb] at hm; cases hm
      · exact b z hz hm
    · obtain ⟨o, eo, e1⟩ := ob_eq e
      obtain ⟨g1, g2⟩ := ho y List.mem_cons_self
      rw [g1] at eo
      cases eo
      split at e1
      · rename_i hal
        split at e1
        · rename_i hst
          obtain ⟨a, b⟩ := ih ho' e1
          refine ⟨a, fun z hz hm => ?_⟩
          rcases List.mem_cons.1 hz with rfl | hz
          · exact ⟨fun hh => absurd ((g2.trans hal).symm.trans hh) Bool.noConfusion, fun _ => hst⟩
          · exact b z hz hm
        · cases e1
      · rename_i hal
        obtain ⟨v, q, e2, e3⟩ := ans_eq e1
        split at e3
        · rename_i hv
          obtain ⟨a, b⟩ := ih ho' e3
          refine ⟨a, fun z hz hm => ?_⟩
          rcases List.mem_cons.1 hz with rfl | hz
          · exact ⟨fun _ => ⟨q, by rw [e2, eqV_eq hv]⟩, fun hh => absurd ((g2.trans hal).symm.trans hh) Bool.noConfusion⟩
          · exact b z hz hm
        · cases e3

theorem evDr_eq {k : KX} {r : Ans} : ∀ (C : List Nat) (ho : Bool) (fl : List Rec) (tm : PT Value) (h : AHeap), (∀ y ∈ fl, ops[y.i]? = some y.o ∧ y.ho = isAl y.o) → evDr E call ops bs C ho (fl.map fun y => (y.i, y.tm, y.v)) tm h k = some r →
    ∃ tr tmF hF, (tr.map fun x => (x.i, x.ho)) = flag ops ho C ∧ tr.map Rec.i = C ∧ TrOk E call ops bs fl tr tm h tmF hF ∧ k .normal tmF hF = some r := by
  intro C
  induction C with
  | nil => intro ho fl tm h _ e; exact ⟨[], tm, h, rfl, rfl, ⟨rfl, rfl⟩, e⟩
  | cons i C ih =>
    intro ho fl tm h hfl e
    simp only [evDr] at e
    obtain ⟨o, eo, e1⟩ := ob_eq e
    obtain ⟨tm', hs, ⟨hw, e2⟩ | ⟨hw, e2⟩⟩ := evGuard_eq e1
    · obtain ⟨v, h', e3, e4⟩ := ans_eq e2
      cases hv : isEv o with
      | true =>
        rw [hv] at e4
        simp only at e4
        cases hal : ho && isAl o with
        | true =>
          rw [hal] at e4
          simp only at e4
          obtain ⟨hho, hal'⟩ := Bool.and_eq_true_iff.1 hal
          have hfl' : ∀ y ∈ (⟨i, true, o, tm', h, true, v, h'⟩ : Rec) :: fl, ops[y.i]? = some y.o ∧ y.ho = isAl y.o := fun y hy => by
            rcases List.mem_cons.1 hy with rfl | hy
            · exact ⟨eo, hal'.symm⟩
            · exact hfl y hy
          obtain ⟨e5, e6⟩ := recheck_eq ((⟨i, true, o, tm', h, true, v, h'⟩ : Rec) :: fl) hfl' e4
          obtain ⟨tr, tmF, hF, q0, q1, q2, q3⟩ := ih true (⟨i, true, o, tm', h, true, v, h'⟩ :: fl) _ _ hfl' e5
          refine ⟨⟨i, true, o, tm', h, true, v, h'⟩ :: tr, tmF, hF, ?_, by simp [q1], ⟨eo, hs, rfl, hw, fun _ => e3, fun hh => (nomatch hh), fun _ _ y hy _ => e6 y (List.mem_cons_of_mem _ hy) (by simp), fun _ => hal', fun _ _ => e6 _ List.mem_cons_self (by simp), ?_⟩, q3⟩
          · simp only [List.map_cons, q0, flag, eo, hho, hal', Bool.true_or, Bool.and_true]
          · simp only [flR, Bool.true_and, Bool.or_true, cond_true]
            exact q2
        | false =>
          rw [hal] at e4
          simp only at e4
          obtain ⟨e5, e6⟩ := recheck_eq fl hfl e4
          obtain ⟨tr, tmF, hF, q0, q1, q2, q3⟩ := ih false fl _ _ hfl e5
          refine ⟨⟨i, false, o, tm', h, true, v, h'⟩ :: tr, tmF, hF, ?_, by simp [q1], ⟨eo, hs, rfl, hw, fun _ => e3, fun hh => (nomatch hh), fun _ _ y hy hc => e6 y hy (hc.resolve_left fun q => Bool.noConfusion q), fun hh => (nomatch hh), fun _ hh => (nomatch hh), ?_⟩, q3⟩
          · have hz : (ho && (isAl o || !isEv o)) = false := by rw [hv]; simpa using hal
            simp only [List.map_cons, q0, flag, eo, hal, hz]
          · simp only [flR, hv, Bool.not_true, Bool.or_false, Bool.and_false, cond_false]
            exact q2
      | false =>
        rw [hv] at e4
        simp only at e4
        have hal : isAl o = false := by
          cases hq : isAl o with
          | false => rfl
          | true => rw [isAl_ev hq] at hv; cases hv
        have hfl' : ∀ y ∈ (⟨i, false, o, tm', h, true, v, h'⟩ : Rec) :: fl, ops[y.i]? = some y.o ∧ y.ho = isAl y.o := fun y hy => by
          rcases List.mem_cons.1 hy with rfl | hy
          · exact ⟨eo, hal.symm⟩
          · exact hfl y hy
        obtain ⟨tr, tmF, hF, q0, q1, q2, q3⟩ := ih ho (⟨i, false, o, tm', h, true, v, h'⟩ :: fl) _ _ hfl' e4
        refine ⟨⟨i, false, o, tm', h, true, v, h'⟩ :: tr, tmF, hF, ?_, by simp [q1], ⟨eo, hs, rfl, hw, fun _ => e3, fun hh => (nomatch hh), fun _ hh => absurd (hv.symm.trans hh) Bool.noConfusion, fun hh => (nomatch hh), fun _ hh => (nomatch hh), ?_⟩, q3⟩
        · simp only [List.map_cons, q0, flag, eo, hal, hv, Bool.and_false, Bool.not_false, Bool.or_true, Bool.and_true]
        · simp only [flR, hv, Bool.not_false, Bool.true_or, Bool.and_true, cond_true]
          exact q2
    · obtain ⟨tr, tmF, hF, q0, q1, q2, q3⟩ := ih _ fl _ _ hfl e2
      refine ⟨⟨i, ho && isAl o, o, tm', h, false, undef, h⟩ :: tr, tmF, hF, ?_, by simp [q1], ⟨eo, hs, rfl, hw, fun hh => (nomatch hh), fun _ => ⟨rfl, rfl⟩, fun hh => (nomatch hh), fun hh => (Bool.and_eq_true_iff.1 hh).2, fun hh => (nomatch hh), ?_⟩, q3⟩
      · simp only [List.map_cons, q0, flag, eo]
      · simp only [flR, Bool.false_and, cond_false]
        exact q2

/-- A record that is no event leaves the heap. -/
theorem TrOk.keep {x : Rec} {fl rest : List Rec} {tm : PT Value} {h : AHeap} {tmF : PT Value} {hF : AHeap} (T : TrOk E call ops bs fl (x :: rest) tm h tmF hF) (hx : isEv x.o = false) : x.h' = x.h := by
  obtain ⟨_, _, _, _, h1, h2, _, _, _, _⟩ := T
  cases hw : x.w with
  | true => exact evOp_keep hx (h1 hw)
  | false => exact (h2 hw).2

/-! What is in the slots and in the heap, when some have been carried out. -/
def tmD (D : Nat → Bool) : List Rec → PT Value → PT Value
  | [], tm => tm
  | x :: r, tm => tmD D r (bif D x.i then put tm x.o.dst x.v else tm)
def hpD (D : Nat → Bool) : List Rec → AHeap → AHeap
  | [], h => h
  | x :: r, h => hpD D r (bif D x.i || x.ho then x.h' else h)

theorem tmD_append (D : Nat → Bool) : ∀ (a b : List Rec) (tm : PT Value), tmD D (a ++ b) tm = tmD D b (tmD D a tm) := by
  intro a
  induction a with
  | nil => intro b tm; rfl
  | cons x a ih => intro b tm; exact ih b _
theorem hpD_append (D : Nat → Bool) : ∀ (a b : List Rec) (h : AHeap), hpD D (a ++ b) h = hpD D b (hpD D a h) := by
  intro a
  induction a with
  | nil => intro b tm; rfl
  | cons x a ih => intro b tm; exact ih b _
theorem tmD_agree {D D' : Nat → Bool} : ∀ {a : List Rec} {tm : PT Value}, (∀ x ∈ a, D x.i = D' x.i) → tmD D a tm = tmD D' a tm := by
  intro a
  induction a with
  | nil => intro tm _; rfl
  | cons x a ih => intro tm h; simp only [tmD]; rw [h x List.mem_cons_self]; exact ih fun y hy => h y (List.mem_cons_of_mem _ hy)
theorem hpD_agree {D D' : Nat → Bool} : ∀ {a : List Rec} {h : AHeap}, (∀ x ∈ a, D x.i = D' x.i) → hpD D a h = hpD D' a h := by
  intro a
  induction a with
  | nil => intro h _; rfl
  | cons x a ih => intro h hh; simp only [hpD]; rw [hh x List.mem_cons_self]; exact ih fun y hy => hh y (List.mem_cons_of_mem _ hy)
/-- Slots that only others write. -/
theorem tmD_slot {D : Nat → Bool} {t : Nat} : ∀ {a : List Rec} {tm : PT Value}, (∀ x ∈ a, D x.i = true → x.o.dst ≠ some t) → opnd (tmD D a tm) (.tmp t) = opnd tm (.tmp t) := by
  intro a
  induction a with
  | nil => intro tm _; rfl
  | cons x a ih =>
    intro tm h
    simp only [tmD]
    rw [ih fun y hy => h y (List.mem_cons_of_mem _ hy)]
    cases hd : D x.i with
    | false => rfl
    | true => simp only [cond_true, opnd_put]; rw [if_neg (h x List.mem_cons_self hd)]
/-- One more put ahead, of a slot that none behind writes. -/
theorem tmD_put {D : Nat → Bool} {d : Option Tmp} {v : Value} : ∀ {a : List Rec} {tm tm' : PT Value}, (∀ x ∈ a, D x.i = true → ∀ t, d = some t → x.o.dst ≠ some t) → SameT tm' (put tm d v) → SameT (tmD D a tm') (put (tmD D a tm) d v) := by
  intro a
  induction a with
  | nil => intro tm tm' _ h; exact h
  | cons x a ih =>
    intro tm tm' h hs
    simp only [tmD]
    refine ih (fun y hy => h y (List.mem_cons_of_mem _ hy)) ?_
    cases hd : D x.i with
    | false => exact hs
    | true =>
      intro t
      simp only [cond_true, opnd_put]
      have h1 := hs t
      rw [opnd_put] at h1
      by_cases c : x.o.dst = some t
      · have : d ≠ some t := fun e => h x List.mem_cons_self hd t e c
        rw [if_pos c, if_neg this, if_pos c]
      · rw [if_neg c, if_neg c, h1]

/-- Up to a record: the walk's slots that matter, and its heap. -/
theorem reach {D : Nat → Bool} {y : Rec} {post : List Rec} {tmF : PT Value} {hF : AHeap} : ∀ {pre fl : List Rec} {tm : PT Value} {h : AHeap} {td : PT Value}, TrOk E call ops bs fl (pre ++ y :: post) tm h tmF hF →
    (∀ x ∈ pre, isEv x.o = true → x.ho = false → D x.i = true) → ∃ fl' tm', TrOk E call ops bs fl' (y :: post) tm' (hpD D pre h) tmF hF ∧
      ∀ t, opnd td (.tmp t) = opnd tm (.tmp t) → (∀ x ∈ pre, D x.i = false → x.o.dst ≠ some t) → opnd (tmD D pre td) (.tmp t) = opnd tm' (.tmp t) := by
  intro pre
  induction pre with
  | nil => intro fl tm h td T _; exact ⟨fl, tm, T, fun _ h _ => h⟩
  | cons x pre ih =>
    intro fl tm h td T hev
    have hkeep : (D x.i || x.ho) = false → x.h' = h := fun hd => by
      obtain ⟨hd1, hd2⟩ := Bool.or_eq_false_iff.1 hd
      have : isEv x.o = false := by
        cases hx : isEv x.o with
        | false => rfl
        | true => rw [hev x List.mem_cons_self hx hd2] at hd1; cases hd1
      rw [TrOk.keep T this, T.2.2.1]
    have hs : SameT x.tm tm := T.2.1
    obtain ⟨fl', tm', h1, h2⟩ := ih (td := bif D x.i then put td x.o.dst x.v else td) (h := x.h') T.2.2.2.2.2.2.2.2.2 (fun z hz => hev z (List.mem_cons_of_mem _ hz))
    refine ⟨fl', tm', ?_, fun t ha hb => ?_⟩
    · simp only [hpD]
      cases hd : D x.i || x.ho with
      | true => exact h1
      | false => rw [hkeep hd] at h1; exact h1
    · simp only [tmD]
      refine h2 t ?_ (fun z hz => hb z (List.mem_cons_of_mem _ hz))
      cases hd : D x.i with
      | true =>
        simp only [cond_true, opnd_put]
        split
        · rfl
        · rw [ha, hs]
      | false => simp only [cond_false, opnd_put]; rw [if_neg (hb x List.mem_cons_self hd), ha, hs]

/-- Behind a record that is not carried out yet: it would still yield what it yielded. -/
theorem later {D : Nat → Bool} {y : Rec} {tmF : PT Value} {hF : AHeap} : ∀ {post fl : List Rec} {tm : PT Value} {h hd : AHeap}, TrOk E call ops bs fl post tm h tmF hF → y ∈ fl →
    post.Pairwise (fun a b => Ahead ops bs (a.i, a.ho) (b.i, b.ho)) → (∀ x ∈ post, D x.i = true → (bs.getD x.i 0).testBit y.i = false) → (∀ a ∈ post, ∀ b ∈ post, D b.i = true → (bs.getD b.i 0).testBit a.i = true → D a.i = true) →
    (hd = h ∨ ∀ x ∈ post, (D x.i || x.ho) = false) → Good E call y hd → Good E call y (hpD D post hd) := by
  intro post
  induction post with
  | nil => intro fl tm h hd _ _ _ _ _ _ hg; exact hg
  | cons x post ih =>
    intro fl tm h hd T hy hp hb hcl hor hg
    obtain ⟨hp1, hp2⟩ := List.pairwise_cons.1 hp
    have hfl : y ∈ flR x fl := by unfold flR; cases (x.w && (!isEv x.o || x.ho)); exact hy; exact List.mem_cons_of_mem _ hy
    have hb' := fun z hz => hb z (List.mem_cons_of_mem _ hz)
    have hcl' := fun a ha b hb => hcl a (List.mem_cons_of_mem _ ha) b (List.mem_cons_of_mem _ hb)
    obtain ⟨ho, hs, hh, hw, ht, hf, hr, hal, hself, hrest⟩ := id T
    simp only [hpD]
    refine ih hrest hfl hp2 hb' hcl' ?_ ?_
    · cases hD : D x.i || x.ho with
      | true => exact .inl rfl
      | false =>
        obtain ⟨hD1, hD2⟩ := Bool.or_eq_false_iff.1 hD
        simp only [cond_false]
        rcases hor with rfl | hor
        · cases hx : isEv x.o with
          | false => exact .inl (by rw [TrOk.keep T hx, hh])
          | true =>
            refine .inr fun z hz => ?_
            obtain ⟨a1, a2⟩ := (hp1 z hz).ev x.o ho hx hD2
            rw [Bool.or_eq_false_iff]
            refine ⟨?_, a2⟩
            cases hz' : D z.i with
            | false => rfl
            | true => rw [hcl x List.mem_cons_self z (List.mem_cons_of_mem _ hz) hz' a1] at hD1; cases hD1
        · exact .inr fun z hz => hor z (List.mem_cons_of_mem _ hz)
    · cases hD : D x.i || x.ho with
      | false => exact hg
      | true =>
        simp only [cond_true]
        have hhd : hd = h := by
          rcases hor with rfl | hor
          · rfl
          · rw [hor x List.mem_cons_self] at hD; cases hD
        cases hx : isEv x.o with
        | false => rw [TrOk.keep T hx, hh, ← hhd]; exact hg
        | true =>
          cases hw' : x.w with
          | false => rw [(hf hw').2, hh, ← hhd]; exact hg
          | true =>
            refine hr hw' hx y hy ?_
            cases hq : x.ho with
            | true => exact .inl rfl
            | false => rw [hq, Bool.or_false] at hD; exact .inr (hb x List.mem_cons_self hD)
theorem hpD_none {D : Nat → Bool} : ∀ {a : List Rec} {h : AHeap}, (∀ x ∈ a, (D x.i || x.ho) = false) → hpD D a h = h := by
  intro a
  induction a with
  | nil => intro h _; rfl
  | cons x a ih => intro h hh; simp only [hpD]; rw [hh x List.mem_cons_self]; exact ih fun y hy => hh y (List.mem_cons_of_mem _ hy)
theorem all_done {D : Nat → Bool} {tmF : PT Value} {hF : AHeap} : ∀ {tr fl : List Rec} {tm td : PT Value} {h : AHeap}, TrOk E call ops bs fl tr tm h tmF hF → (∀ x ∈ tr, D x.i = true) → SameT td tm → SameT (tmD D tr td) tmF ∧ hpD D tr h = hF := by
  intro tr
  induction tr with
  | nil => intro fl tm td h T _ hs; exact ⟨fun t => by rw [← T.1]; exact hs t, T.2⟩
  | cons x tr ih =>
    intro fl tm td h T hD hs
    simp only [tmD, hpD, hD x List.mem_cons_self, cond_true, Bool.true_or]
    refine ih T.2.2.2.2.2.2.2.2.2 (fun z hz => hD z (List.mem_cons_of_mem _ hz)) fun t => ?_
    rw [opnd_put, opnd_put]
    split
    · rfl
    · rw [hs, T.2.1]

/-- What a record lays in advance. -/
theorem TrOk.laid {fl rest : List Rec} {x : Rec} {tm : PT Value} {h : AHeap} {tmF : PT Value} {hF : AHeap} (T : TrOk E call ops bs fl (x :: rest) tm h tmF hF) (hw : x.w = true) (hh : x.ho = true) :
    ∃ p, alC E x.tm x.o.op = some p ∧ x.v = alV x.o.op h.next ∧ x.h' = h.new (.cells p.1 p.2 none false) := by
  obtain ⟨_, _, h3, _, h5, _, _, h8, _, _⟩ := T
  have e := h5 hw
  rw [evOp_al (h8 hh), h3] at e
  obtain ⟨p, ep, e⟩ := ob_eq e
  simp only [rety, Option.some.injEq, Ans.ret.injEq] at e
  exact ⟨p, ep, e.1.symm, e.2.symm⟩
/-- Where what is laid in advance lies: behind all that was there, each at a place of its own. -/
theorem laid_next {tmF : PT Value} {hF : AHeap} : ∀ {tr fl : List Rec} {tm : PT Value} {h : AHeap}, TrOk E call ops bs fl tr tm h tmF hF → tr.Pairwise (fun a b => Ahead ops bs (a.i, a.ho) (b.i, b.ho)) →
    (∀ x ∈ tr, x.w = true → x.ho = true → ∃ n, blkOf x.v = some n ∧ h.next ≤ n) ∧
    tr.Pairwise (fun a b => ∀ n, a.w = true → a.ho = true → b.w = true → b.ho = true → blkOf a.v = some n → blkOf b.v ≠ some n) := by
  intro tr
  induction tr with
  | nil => intro fl tm h _ _; exact ⟨fun x hx => (by cases hx), List.Pairwise.nil⟩
  | cons x tr ih =>
    intro fl tm h T hp
    obtain ⟨hp1, hp2⟩ := List.pairwise_cons.1 hp
    have hrest := T.2.2.2.2.2.2.2.2.2
    obtain ⟨i1, i2⟩ := ih hrest hp2
    have hox : ops[x.i]? = some x.o := T.1
    -- behind an event that is no such there is none
    have hno : ∀ z ∈ tr, z.ho = true → isEv x.o = true → x.ho = true := fun z hz hzh hev => by
      cases hq : x.ho with
      | true => rfl
      | false => have := ((hp1 z hz).ev x.o hox hev hq).2; simp only at this; rw [hzh] at this; cases this
    have hle : ∀ z ∈ tr, z.ho = true → h.next ≤ x.h'.next := fun z hz hzh => by
      cases hw : x.w with
      | false => rw [(T.2.2.2.2.2.1 hw).2, T.2.2.1]; exact Nat.le_refl _
      | true =>
        cases hev : isEv x.o with
        | false => rw [TrOk.keep T hev, T.2.2.1]; exact Nat.le_refl _
        | true =>
          obtain ⟨p, _, _, e⟩ := TrOk.laid T hw (hno z hz hzh hev)
          rw [e]; simp
    refine ⟨fun z hz hw hh => ?_, List.pairwise_cons.2 ⟨fun z hz n hw hh hzw hzh e1 e2 => ?_, i2⟩⟩
    · rcases List.mem_cons.1 hz with rfl | hz
      · obtain ⟨p, _, ev, _⟩ := TrOk.laid T hw hh
        exact ⟨h.next, by rw [ev]; exact blkOf_alV (T.2.2.2.2.2.2.2.1 hh) _, Nat.le_refl _⟩
      · obtain ⟨n, e, hn⟩ := i1 z hz hw hh
        exact ⟨n, e, Nat.le_trans (hle z hz hh) hn⟩
    · obtain ⟨p, _, ev, eh⟩ := TrOk.laid T hw hh
      rw [ev, blkOf_alV (T.2.2.2.2.2.2.2.1 hh)] at e1
      cases e1
      obtain ⟨n, e, hn⟩ := i1 z hz hzw hzh
      rw [e] at e2
      cases e2
      rw [eh] at hn
      simp at hn
      omega
theorem next_le {tmF : PT Value} {hF : AHeap} : ∀ {tr fl : List Rec} {tm : PT Value} {h : AHeap}, TrOk E call ops bs fl tr tm h tmF hF → tr.Pairwise (fun a b => Ahead ops bs (a.i, a.ho) (b.i, b.ho)) →
    h.next ≤ (hpD (fun _ => false) tr h).next ∧ ∀ x ∈ tr, x.w = true → x.ho = true → ∀ n, blkOf x.v = some n → n < (hpD (fun _ => false) tr h).next := by
  intro tr
  induction tr with
  | nil => intro fl tm h _ _; exact ⟨Nat.le_refl _, fun x hx => (by cases hx)⟩
  | cons x tr ih =>
    intro fl tm h T hp
    obtain ⟨hp1, hp2⟩ := List.pairwise_cons.1 hp
    have hrest := T.2.2.2.2.2.2.2.2.2
    simp only [hpD, Bool.false_or]
    cases hh : x.ho with
    | true =>
      simp only [cond_true]
      obtain ⟨i1, i2⟩ := ih hrest hp2
      cases hw : x.w with
      | false =>
        have e : x.h' = h := by rw [(T.2.2.2.2.2.1 hw).2, T.2.2.1]
        refine ⟨by rw [e] at i1 ⊢; exact i1, fun z hz hzw hzh n hn => ?_⟩
        rcases List.mem_cons.1 hz with rfl | hz
        · rw [hw] at hzw; cases hzw
        · exact i2 z hz hzw hzh n hn
      | true =>
        obtain ⟨p, _, ev, e⟩ := TrOk.laid T hw hh
        have hx : h.next < x.h'.next := by rw [e]; simp
        refine ⟨by omega, fun z hz hzw hzh n hn => ?_⟩
        rcases List.mem_cons.1 hz with rfl | hz
        · rw [ev, blkOf_alV (T.2.2.2.2.2.2.2.1 hh)] at hn
          cases hn
          omega
        · exact i2 z hz hzw hzh n hn
    | false =>
      simp only [cond_false]
      cases hev : isEv x.o with
      | true =>
        have hz0 : ∀ z ∈ tr, z.ho = false := fun z hz => ((hp1 z hz).ev x.o T.1 hev hh).2
        rw [hpD_none fun z hz => by simp only [Bool.false_or]; exact hz0 z hz]
        refine ⟨Nat.le_refl _, fun z hz hzw hzh n hn => ?_⟩
        rcases List.mem_cons.1 hz with rfl | hz
        · rw [hh] at hzh; cases hzh
        · rw [hz0 z hz] at hzh; cases hzh
      | false =>
        have e : x.h' = h := by rw [TrOk.keep T hev, T.2.2.1]
        rw [e] at hrest
        obtain ⟨i1, i2⟩ := ih hrest hp2
        refine ⟨i1, fun z hz hzw hzh n hn => ?_⟩
        rcases List.mem_cons.1 hz with rfl | hz
        · rw [hh] at hzh; cases hzh
        · exact i2 z hz hzw hzh n hn
/-- All that is laid in advance, laid in the abstract heap. -/
theorem ghosts {B : Kept} {m : MP} {w : World} {tmF : PT Value} {hF : AHeap} : ∀ {tr fl : List Rec} {tm : PT Value} {h : AHeap}, TrOk E call ops bs fl tr tm h tmF hF → tr.Pairwise (fun a b => Ahead ops bs (a.i, a.ho) (b.i, b.ho)) →
    HRel B m h w → HRel B m (hpD (fun _ => false) tr h) w ∧ h.next ≤ (hpD (fun _ => false) tr h).next := by
  intro tr
  induction tr with
  | nil => intro fl tm h _ _ H; exact ⟨H, Nat.le_refl _⟩
  | cons x tr ih =>
    intro fl tm h T hp H
    obtain ⟨hp1, hp2⟩ := List.pairwise_cons.1 hp
    have hrest := T.2.2.2.2.2.2.2.2.2
    simp only [hpD, Bool.false_or]
    cases hh : x.ho with
    | true =>
      simp only [cond_true]
      cases hw : x.w with
      | false =>
        have e : x.h' = h := by rw [(T.2.2.2.2.2.1 hw).2, T.2.2.1]
        rw [e] at hrest ⊢
        exact ih hrest hp2 H
      | true =>
        obtain ⟨p, _, _, e⟩ := TrOk.laid T hw hh
        rw [e] at hrest ⊢
        obtain ⟨a, b⟩ := ih hrest hp2 (H.ghost _)
        exact ⟨a, by simp at b; omega⟩
    | false =>
      simp only [cond_false]
      cases hev : isEv x.o with
      | true =>
        rw [hpD_none fun z hz => by simp only [Bool.false_or]; exact ((hp1 z hz).ev x.o T.1 hev hh).2]
        exact ⟨H, Nat.le_refl _⟩
      | false =>
        have e : x.h' = h := by rw [TrOk.keep T hev, T.2.2.1]
        rw [e] at hrest
        exact ih hrest hp2 H

theorem TrOk.ops_at {tmF : PT Value} {hF : AHeap} : ∀ {tr fl : List Rec} {tm : PT Value} {h : AHeap}, TrOk E call ops bs fl tr tm h tmF hF → ∀ x ∈ tr, ops[x.i]? = some x.o := by
  intro tr
  induction tr with
  | nil => intro fl tm h _ x hx; cases hx
  | cons y tr ih =>
    intro fl tm h T x hx
    rcases List.mem_cons.1 hx with rfl | hx
    · exact T.1
    · exact ih T.2.2.2.2.2.2.2.2.2 x hx
theorem TRel.same_ {m : MP} {tm tm' : PT Value} {a : Act} (hs : SameT tm tm') (T : TRel nt m tm' a) : TRel nt m tm a := ⟨T.sz, fun t ht => by rw [hs t]; exact T.slot t ht⟩
theorem countP_less {D D' : Nat → Bool} {y : Nat} (h1 : ∀ i, D' i = false → D i = false) (h2 : D y = false) (h3 : D' y = true) : ∀ {l : List Nat}, y ∈ l → l.countP (fun i => !D' i) < l.countP (fun i => !D i) := by
  intro l
  induction l with
  | nil => intro h; cases h
  | cons x l ih =>
    intro h
    simp only [List.countP_cons]
    have hle : l.countP (fun i => !D' i) ≤ l.countP (fun i => !D i) := List.countP_mono_left fun z _ hz => by
      simp only [Bool.not_eq_true'] at hz ⊢
      exact h1 z hz
    by_cases e : x = y
    · subst e
      simp only [h2, h3]
      simp
      omega
    · have := ih (by rcases List.mem_cons.1 h with h | h; exact absurd h.symm e; exact h)
      have hx : (if (!D' x) = true then 1 else 0) ≤ (if (!D x) = true then 1 else 0) := by
        cases hd : D' x with
        | true => simp
        | false => rw [h1 x hd]; simp
      omega

theorem any_sound {ro : Option Nat} {dep : Nat} (hE : E.Ok P G) (hG : ∀ i, i < G → B.old i) (hcall : CallOk P B call) (hops : ops.toList.all (operOk nt G ops) = true) (hback : backOk ops bs = true) (hrows : rowsOk ops bs ops.size = true)
    {tr : List Rec} {tm0 tmF : PT Value} {h0 hF : AHeap} (hz0 : lim < h0.next) (T0 : TrOk E call ops bs [] tr tm0 h0 tmF hF) (hpw : tr.Pairwise fun a b => Ahead ops bs (a.i, a.ho) (b.i, b.ho)) (hmem : ∀ i, i < ops.size → ∃ y ∈ tr, y.i = i)
    {k : KX} {r : Ans} {m0 : MP} {w0 : World} {ds : List Deferred} {Q : Exit → Act → World → Prop} (hkF : k .normal tmF hF = some r) (hk : KOk B nt m0 h0 w0 ds k r Q) :
    ∀ (fuel : Nat) (listed : Array Bool) (a : Act) (w : World) (m : MP), listed.size = ops.size → Closed ops (fun i => listed.getD i false) → (List.range ops.size).countP (fun i => !listed.getD i false) ≤ fuel →
      HRel B m (hpD (fun i => listed.getD i false) tr h0) w → TRel nt m (tmD (fun i => listed.getD i false) tr tm0) a → Gr h0 m0 (hpD (fun i => listed.getD i false) tr h0) m → Bel B w0 w → a.defers = ds →
      (∀ x ∈ tr, x.w = true → x.ho = true → listed.getD x.i false = false → ∀ n, blkOf x.v = some n → m n = none ∧ n < (hpD (fun i => listed.getD i false) tr h0).next) →
      wpAnyIn (FR ro) dep P .any ops Q fuel listed a w := by
  have hno : ∀ (listed : Array Bool), listed.size = ops.size → ∀ i, i < ops.size → listed.getD i false = false → listed.getD i true = false := by
    intro listed hsz i hi h
    have hi' : i < listed.size := by omega
    simp only [Array.getD, hi', dite_true] at h ⊢
    exact h
  have hfin : ∀ (listed : Array Bool) (a : Act) (w : World) (m : MP), listed.size = ops.size →
      HRel B m (hpD (fun i => listed.getD i false) tr h0) w → TRel nt m (tmD (fun i => listed.getD i false) tr tm0) a → Gr h0 m0 (hpD (fun i => listed.getD i false) tr h0) m → Bel B w0 w → a.defers = ds →
      Region.ready .any ops listed = [] → Q .normal a w := by
    intro listed a w m hsz H T hg hb hd hr
    have hall : ∀ i, i < ops.size → listed.getD i false = true := by
      intro i
      induction i using Nat.strongRecOn with
      | _ i ih =>
        intro hi
        cases hD : listed.getD i false with
        | true => rfl
        | false =>
          have ho : ops[i]? = some ops[i] := Array.getElem?_eq_getElem hi
          have : i ∈ Region.ready .any ops listed := mem_ready.2 ⟨hno listed hsz i hi hD, _, ho, fun e he hb => ih e.on ((backOk_at hback ho).2 e he hb) (by have := (backOk_at hback ho).2 e he hb; omega)⟩
          rw [hr] at this
          cases this
    obtain ⟨q1, q2⟩ := all_done T0 (D := fun i => listed.getD i false) (fun x hx => hall _ (Array.getElem?_eq_some_iff.1 (T0.ops_at x hx)).1) (fun _ => rfl : SameT tm0 tm0)
    rw [q2] at H hg
    exact hk _ _ _ _ _ _ _ _ hkF hg H (TRel.same_ (fun t => (q1 t).symm) T) (by rw [hd]; exact .of_bel _ hb) .normal
  intro fuel
  induction fuel with
  | zero =>
    intro listed a w m hsz hcl hct H T hg hb hd _
    have hr : Region.ready .any ops listed = [] := by
      cases hr : Region.ready .any ops listed with
      | nil => rfl
      | cons i l =>
        have : i ∈ Region.ready .any ops listed := by rw [hr]; exact List.mem_cons_self
        obtain ⟨h1, o, ho, _⟩ := mem_ready.1 this
        have hi : i < ops.size := (Array.getElem?_eq_some_iff.1 ho).1
        have hf : listed.getD i false = false := by
          have hi' : i < listed.size := by omega
          simp only [Array.getD, hi', dite_true] at h1 ⊢
          exact h1
        have := List.countP_eq_zero.1 (Nat.le_zero.1 hct) i (List.mem_range.2 hi)
        rw [hf] at this
        simp at this
    exact ⟨hr, hfin listed a w m hsz H T hg hb hd hr⟩
  | succ fuel ih =>
    intro listed a w m hsz hcl hct H T hg hb hd hgh
    refine ⟨hfin listed a w m hsz H T hg hb hd, fun i hi => ?_⟩
    obtain ⟨h1, o, ho, hall⟩ := mem_ready.1 hi
    have hin : i < ops.size := (Array.getElem?_eq_some_iff.1 ho).1
    have hDi : listed.getD i false = false := by
      have hi' : i < listed.size := by omega
      simp only [Array.getD, hi', dite_true] at h1 ⊢
      exact h1
    obtain ⟨y, hy, rfl⟩ := hmem i hin
    obtain ⟨pre, post, rfl⟩ := List.append_of_mem hy
    have hat := T0.ops_at
    have hoy := hat y hy
    rw [ho] at hoy
    cases hoy
    obtain ⟨hp1, hp2, hp3⟩ := List.pairwise_append.1 hpw
    obtain ⟨hp4, hp5⟩ := List.pairwise_cons.1 hp2
    have hpre : ∀ x ∈ pre, Ahead ops bs (x.i, x.ho) (y.i, y.ho) := fun x hx => hp3 x hx y List.mem_cons_self
    have hatpre : ∀ x ∈ pre, ops[x.i]? = some x.o := fun x hx => hat x (List.mem_append_left _ hx)
    have hatpost : ∀ x ∈ post, ops[x.i]? = some x.o := fun x hx => hat x (List.mem_append_right _ (List.mem_cons_of_mem _ hx))
    generalize hDdef : (fun i => listed.getD i false) = D at *
    have hDy : D y.i = false := by rw [← hDdef]; exact hDi
    have hanc : ∀ q, (bs.getD y.i 0).testBit q = true → D q = true := anc hback hcl y.i y.o ho (fun e he hb => by rw [← hDdef]; exact hall e he hb)
    have hcl2 : ∀ x ∈ pre ++ y :: post, D x.i = true → ∀ q, (bs.getD x.i 0).testBit q = true → D q = true := fun x hx hD => anc hback hcl x.i x.o (hat x hx) (hcl x.i x.o (hat x hx) hD)
    -- what is free of it
    have fpre : ∀ x ∈ pre, D x.i = false → ∀ t ∈ namesOf ops y.o, x.o.dst ≠ some t := fun x hx hD t ht hdst =>
      (free2 hrows (hatpre x hx) ho (hpre x hx).ne (by
        cases hq : (bs.getD y.i 0).testBit x.i with
        | false => rfl
        | true => rw [hanc _ hq] at hD; cases hD) (hpre x hx).not).1 t hdst ht
    have hnb : ∀ x ∈ post, D x.i = true → (bs.getD x.i 0).testBit y.i = false := fun x hx hD => by
      cases hq : (bs.getD x.i 0).testBit y.i with
      | false => rfl
      | true => rw [hcl2 x (List.mem_append_right _ (List.mem_cons_of_mem _ hx)) hD _ hq] at hDy; cases hDy
    have fpost := fun (x : Rec) (hx : x ∈ post) (hD : D x.i = true) => free2 hrows (hatpost x hx) ho (Ne.symm (hp4 x hx).ne) (hp4 x hx).not (hnb x hx hD)
    obtain ⟨fl', tm', T1, hslot⟩ := reach (td := tm0) (D := D) T0 (fun x hx hev hho => hanc _ ((hpre x hx).ev x.o (hatpre x hx) hev hho).1)
    have hTm : tmD D (pre ++ y :: post) tm0 = tmD D post (tmD D pre tm0) := by rw [tmD_append]; simp only [tmD, hDy, cond_false]
    have hyh : y.h = hpD D pre h0 := T1.2.2.1
    have hHp : hpD D (pre ++ y :: post) h0 = hpD D post (bif y.ho then y.h' else y.h) := by rw [hpD_append]; simp only [hpD, hDy, Bool.false_or, hyh]
    have hnames : ∀ t ∈ namesOf ops y.o, opnd (tmD D (pre ++ y :: post) tm0) (.tmp t) = opnd y.tm (.tmp t) := fun t ht => by
      rw [hTm, tmD_slot (fun x hx hD hdst => (fpost x hx hD).1 t hdst ht), hslot t rfl (fun x hx hD => fpre x hx hD t ht), T1.2.1]
    -- the state behind it
    generalize hD'def : (fun i => (listed.setIfInBounds y.i true).getD i false) = D'
    have hD'y : D' y.i = true := by
      rw [← hD'def]
      have hi' : y.i < listed.size := by omega
      simp [hi']
    have hD'n : ∀ q, q ≠ y.i → D' q = D q := fun q hq => by rw [← hD'def, ← hDdef]; exact getD_set_ne false (Ne.symm hq)
    have hHp' : hpD D' (pre ++ y :: post) h0 = hpD D post y.h' := by
      rw [hpD_append]; simp only [hpD, hD'y, Bool.true_or, cond_true]
      exact hpD_agree fun x hx => hD'n _ (Ne.symm (hp4 x hx).ne)
    have hTm' : SameT (tmD D' (pre ++ y :: post) tm0) (put (tmD D (pre ++ y :: post) tm0) y.o.dst y.v) := by
      rw [tmD_append, hTm]
      simp only [tmD, hD'y, cond_true]
      rw [tmD_agree (D := D') (D' := D) (a := post) fun x hx => hD'n _ (Ne.symm (hp4 x hx).ne), tmD_agree (D := D') (D' := D) (a := pre) fun x hx => hD'n _ (hpre x hx).ne]
      exact tmD_put (fun x hx hD t ht hdst => (fpost x hx hD).2 t hdst ht) (fun _ => rfl)
    have hcl' : Closed ops D' := by
      intro j oj hj hDj e he hbd
      by_cases hej : e.on = y.i
      · rw [hej]; exact hD'y
      · rw [hD'n _ hej]
        by_cases hjy : j = y.i
        · subst hjy
          rw [ho] at hj
          cases hj
          rw [← hDdef]; exact hall e he hbd
        · rw [hD'n _ hjy] at hDj
          exact hcl j oj hj hDj e he hbd
    have hct' : (List.range ops.size).countP (fun i => !(listed.setIfInBounds y.i true).getD i false) ≤ fuel := by
      have h1 : (List.range ops.size).countP (fun i => !D' i) < (List.range ops.size).countP (fun i => !D i) := countP_less (y := y.i) (fun q hq => by
        by_cases e : q = y.i
        · rw [e]; exact hDy
        · rw [← hD'n q e]; exact hq) hDy hD'y (List.mem_range.2 hin)
      rw [← hDdef, ← hD'def] at h1
      have h2 : (List.range ops.size).countP (fun i => !listed.getD i false) ≤ fuel + 1 := by simpa [← hDdef] using hct
      have h3 : (List.range ops.size).countP (fun i => !(listed.setIfInBounds y.i true).getD i false) < (List.range ops.size).countP (fun i => !listed.getD i false) := h1
      omega
    have next : ∀ (a' : Act) (w' : World) (m' : MP), HRel B m' (hpD D post y.h') w' → TRel nt m' (put (tmD D (pre ++ y :: post) tm0) y.o.dst y.v) a' → Gr h0 m0 (hpD D post y.h') m' → Bel B w0 w' → a'.defers = ds →
        (∀ x ∈ pre ++ y :: post, x.i ≠ y.i → x.w = true → x.ho = true → D x.i = false → ∀ n, blkOf x.v = some n → m' n = none ∧ n < (hpD D post y.h').next) →
        wpAnyIn (FR ro) dep P .any ops Q fuel (listed.setIfInBounds y.i true) a' w' := by
      intro a' w' m' H' T' hg' hb' hd' hgh'
      refine ih _ a' w' m' (by simp [hsz]) (by rw [hD'def]; exact hcl') hct' ?_ ?_ ?_ hb' hd' (fun x hx hxw hxh hxD n hn => by
        have hxD' : D' x.i = false := by rw [← hD'def]; exact hxD
        have hne : x.i ≠ y.i := fun e => by rw [e, hD'y] at hxD'; cases hxD'
        rw [hD'n _ hne] at hxD'
        rw [hD'def, hHp']
        exact hgh' x hx hne hxw hxh hxD' n hn)
      · rw [hD'def, hHp']; exact H'
      · rw [hD'def]; exact TRel.same_ hTm' T'
      · rw [hD'def, hHp']; exact hg'
    -- the operation
    have hok : operOk nt G ops y.o = true := List.all_eq_true.1 hops y.o (by
      have := List.mem_of_getElem? (show ops.toList[y.i]? = some y.o by simpa using ho)
      exact this)
    unfold operOk at hok
    rw [Bool.and_eq_true] at hok
    have hwant : wantA ops y.o (tmD D (pre ++ y :: post) tm0) = some y.w := by
      rw [wantA_congr hnames, ← T1.2.2.2.1]
      exact wantA_congr fun t _ => T1.2.1 t
    have hwr := wantA_real (ops := ops) h0 T hok.2 hwant
    unfold wpOpIn
    rw [ho]
    simp only
    rw [hwr]
    have hgh0 : ∀ x ∈ pre ++ y :: post, x.w = true → x.ho = true → D x.i = false → ∀ n, blkOf x.v = some n → m n = none ∧ n < (hpD D (pre ++ y :: post) h0).next := fun x hx a b c => hgh x hx a b (by rw [← hDdef] at c; exact c)
    -- an operation that is carried out as the walk has it
    have plain : y.w = true → y.ho = false → y.o.wpIn (FR ro) dep P a w (fun a' w' => wpAnyIn (FR ro) dep P .any ops Q fuel (listed.setIfInBounds y.i true) a' w') Q := by
      intro hyw hyho
      have e1 := T1.2.2.2.2.1 hyw
      have hHp2 : hpD D (pre ++ y :: post) h0 = hpD D post y.h := by rw [hHp, hyho]; rfl
      have e2 : ∃ q, evOp E call y.o.op (tmD D (pre ++ y :: post) tm0) (hpD D (pre ++ y :: post) h0) rety nopan = some (.ret y.v q) ∧ q = hpD D post y.h' := by
        rw [evOp_congr (opnd_congr hnames), hHp2]
        cases hev : isEv y.o with
        | true =>
          have hnone : ∀ x ∈ post, (D x.i || x.ho) = false := fun x hx => by
            obtain ⟨a1, a2⟩ := (hp4 x hx).ev y.o ho hev hyho
            rw [Bool.or_eq_false_iff]
            refine ⟨?_, a2⟩
            cases hq : D x.i with
            | false => rfl
            | true => have := hnb x hx hq; rw [this] at a1; cases a1
          rw [hpD_none hnone, hpD_none hnone]
          exact ⟨_, e1, rfl⟩
        | false =>
          have hkeep := TrOk.keep T1 hev
          have hfl : flR y fl' = y :: fl' := by simp [flR, hyw, hev]
          have hrest := T1.2.2.2.2.2.2.2.2.2
          rw [hfl] at hrest
          obtain ⟨q, hq⟩ := (later (D := D) (hd := y.h) hrest List.mem_cons_self hp5 hnb
            (fun x hx z hz hD hbit => hcl2 z (List.mem_append_right _ (List.mem_cons_of_mem _ hz)) hD _ hbit) (.inl hkeep.symm) ⟨fun _ => ⟨_, e1⟩, fun hh => by rw [hyho] at hh; cases hh⟩).1 hyho
          refine ⟨q, hq, ?_⟩
          rw [hkeep]
          exact evOp_keep hev hq
      obtain ⟨q, e3, e4⟩ := e2
      refine evOp_soundIn hE hG hcall H T hok.1 e3 ?_ ?_
      · intro v h' m' w' v' hk' hm H' hv hb'
        simp only [rety, Option.some.injEq, Ans.ret.injEq] at hk'
        obtain ⟨rfl, rfl⟩ := hk'
        rw [e4] at H' hm
        refine next _ _ m' H' ((T.mono hm.le).put _ hv) (hg.trans hm) (hb.trans hb') (by rw [put_defers]; exact hd) (fun x hx _ hxw hxh hxD n hn => ?_)
        obtain ⟨a1, a2⟩ := hgh0 x hx hxw hxh hxD n hn
        exact ⟨by rw [hm.same n a2]; exact a1, Nat.lt_of_lt_of_le a2 hm.next⟩
      · intro v h' m' w' v' hk'
        cases hk'
    -- memory that was laid in advance
    have early : y.w = true → y.ho = true → y.o.wpIn (FR ro) dep P a w (fun a' w' => wpAnyIn (FR ro) dep P .any ops Q fuel (listed.setIfInBounds y.i true) a' w') Q := by
      intro hyw hyho
      have hal : isAl y.o = true := T1.2.2.2.2.2.2.2.1 hyho
      have hHp2 : hpD D (pre ++ y :: post) h0 = hpD D post y.h' := by rw [hHp, hyho]; rfl
      have hrest := T1.2.2.2.2.2.2.2.2.2
      have hfl : flR y fl' = y :: fl' := by simp [flR, hyw, hyho]
      rw [hfl] at hrest
      have hst := (later (D := D) (hd := y.h') hrest List.mem_cons_self hp5 hnb
        (fun x hx z hz hD hbit => hcl2 z (List.mem_append_right _ (List.mem_cons_of_mem _ hz)) hD _ hbit) (.inl rfl) (T1.2.2.2.2.2.2.2.2.1 hyw hyho)).2 hyho
      rw [← hHp2] at hst
      obtain ⟨p, n, ep, en, hget⟩ := still_eq hst
      obtain ⟨q, eq1, eq2, _⟩ := TrOk.laid T1 hyw hyho
      rw [ep] at eq1
      cases eq1
      have hn0 : n = y.h.next := by
        rw [eq2, blkOf_alV hal, ← T1.2.2.1] at en
        exact (Option.some.inj en).symm
      have eqv : y.v = alV y.o.op n := by rw [eq2, hn0, T1.2.2.1]
      obtain ⟨g1, g2⟩ := hgh0 y (List.mem_append_right _ List.mem_cons_self) hyw hyho hDy n en
      have ep2 : alC E (tmD D (pre ++ y :: post) tm0) y.o.op = some p := by rw [alC_congr hal (opnd_congr hnames)]; exact ep
      have hsc := alC_sc hE hG H T hal hok.1 ep2
      have e3 := evOp_al (E := E) (call := call) (tm := tmD D (pre ++ y :: post) tm0) hal (hpD D (pre ++ y :: post) h0) rety nopan
      rw [ep2] at e3
      refine evOp_soundIn hE hG hcall H T hok.1 e3 ?_ ?_
      · intro v h' m' w' v' hk' hm H' hv hb'
        simp only [rety, Option.some.injEq, Ans.ret.injEq] at hk'
        obtain ⟨rfl, rfl⟩ := hk'
        -- where it lies now
        have hnz : ¬ lim = n := by
          obtain ⟨n', en', hn'⟩ := (laid_next T0 hpw).1 y (List.mem_append_right _ List.mem_cons_self) hyw hyho
          rw [en] at en'
          cases en'
          have := hz0
          omega
        have hv2 : ∃ r, m' (hpD D (pre ++ y :: post) h0).next = some r ∧ VRel (m.put n r) (alV y.o.op n) v' := by
          unfold isAl at hal
          split at hal <;> rename_i ht
          · rw [ht] at hv ⊢
            cases hv with
            | ptr hr => exact ⟨_, hr, .ptr (MP.put_same _ _ _)⟩
          · rw [ht] at hv ⊢
            cases hv with
            | ptr hr => exact ⟨_, hr, .ptr (MP.put_same _ _ _)⟩
          · rw [ht] at hv ⊢
            rcases hv.slice_inv with ⟨_, hl, rf, y, c', hr, e5, hc, hy⟩ | ⟨⟨_, hbl⟩, _⟩
            · rw [e5]
              exact ⟨_, hr, .slice (MP.put_same _ _ _) hl hc hy⟩
            · have := H.zed.2
              simp only at hbl
              omega
          · cases hal
        obtain ⟨r, hr, hv3⟩ := hv2
        have HR := H.realize g1 hnz g2 hget hsc H' hm hr
        have hgr : Gr (hpD D (pre ++ y :: post) h0) m (hpD D (pre ++ y :: post) h0) (m.put n r) → False ∨ True := fun _ => .inr trivial
        have hle2 : m.le (m.put n r) := MP.le_put g1
        rw [← eqv] at hv3
        refine next _ _ (m.put n r) (by rw [← hHp2]; exact HR) ((T.mono hle2).put _ hv3) ?_ (hb.trans hb') (by rw [put_defers]; exact hd) (fun x hx hne hxw hxh hxD k hk => ?_)
        · rw [← hHp2]
          refine ⟨MP.le_trans hg.le hle2, hg.next, fun i hi => ?_⟩
          have hni : i ≠ n := by
            obtain ⟨n', en', hn'⟩ := (laid_next T0 hpw).1 y (List.mem_append_right _ List.mem_cons_self) hyw hyho
            rw [en] at en'
            cases en'
            omega
          show (m.put n r) i = m0 i
          unfold MP.put
          rw [if_neg hni]
          exact hg.same i hi
        · obtain ⟨a1, a2⟩ := hgh0 x hx hxw hxh hxD k hk
          have hkn : k ≠ n := by
            intro e
            subst e
            have hpd := (laid_next T0 hpw).2
            obtain ⟨s1, s2, s3⟩ := List.pairwise_append.1 hpd
            obtain ⟨s4, s5⟩ := List.pairwise_cons.1 s2
            rcases List.mem_append.1 hx with hx | hx
            · exact s3 x hx y List.mem_cons_self k hxw hxh hyw hyho hk en
            · rcases List.mem_cons.1 hx with rfl | hx
              · exact hne rfl
              · exact s4 x hx k hyw hyho hxw hxh en hk
          refine ⟨?_, by rw [← hHp2]; exact a2⟩
          unfold MP.put
          rw [if_neg hkn]
          exact a1
      · intro v h' m' w' v' hk'
        cases hk'
    cases hyw : y.w with
    | false =>
      obtain ⟨e1, e2⟩ := T1.2.2.2.2.2.1 hyw
      simp only [Bool.false_eq_true, if_false]
      have hHp2 : hpD D (pre ++ y :: post) h0 = hpD D post y.h' := by rw [hHp, e2]; cases y.ho <;> rfl
      rw [hHp2] at H hg
      refine ⟨fun _ _ => trivial, next _ _ m H ?_ hg hb (by rw [put_defers]; exact hd) (fun x hx _ hxw hxh hxD n hn => by rw [← hHp2]; exact hgh0 x hx hxw hxh hxD n hn)⟩
      rw [e1]
      exact T.put _ VRel.undef
    | true =>
      simp only [if_true]
      cases hyho : y.ho with
      | false => exact plain hyw hyho
      | true => exact early hyw hyho

theorem draw_sound (hE : E.Ok P G) (hG : ∀ i, i < G → B.old i) (hcall : CallOk P B call) (D : Dr) : DrawOk P B G D (evDraw E call D) := by
  intro ro dep ops tm h k r nt m w a Q id e hc H T hk
  unfold evDraw at e
  obtain ⟨p, ep, e1⟩ := ob_eq e
  simp only [codeOk, ep, Bool.and_eq_true, Bool.not_true, Bool.false_or] at hc
  obtain ⟨hops, hreg⟩ := hc
  unfold regOk at hreg
  simp only [Bool.and_eq_true] at hreg
  obtain ⟨⟨⟨⟨hback, hrows⟩, _⟩, hord⟩, hmem⟩ := hreg
  obtain ⟨tr, tmF, hF, hfg, htr, T0, hkF⟩ := evDr_eq p.2 true [] tm h (fun y hy => by cases hy) e1
  obtain ⟨hpw, _⟩ := ordOk_spec _ _ _ _ hord
  rw [← hfg, List.pairwise_map] at hpw
  obtain ⟨Hg, hnx⟩ := ghosts T0 hpw H
  have hempty : ∀ i, (Array.replicate ops.size false).getD i false = false := fun i => by
    simp only [Array.getD_eq_getD_getElem?, Array.getElem?_replicate]
    split <;> rfl
  have hDf : (fun i => (Array.replicate ops.size false).getD i false) = fun _ => false := funext hempty
  have hT : ∀ (l : List Rec) (tm : PT Value), tmD (fun _ => false) l tm = tm := by
    intro l; induction l with
    | nil => intro tm; rfl
    | cons x l ih => intro tm; exact ih tm
  refine wpIn_region_any hE.mixed ?_
  refine any_sound hE hG hcall hops hback hrows H.zed.2 T0 hpw (fun i hi => ?_) hkF (hk.bel (Gr.refl h m) (Bel.refl B w)) _ _ _ _ m (by simp) ?_ ?_ ?_ ?_ ?_ ?_ rfl ?_
  · have := List.all_eq_true.1 hmem i (List.mem_range.2 hi)
    rw [← htr] at this
    obtain ⟨y, hy, e⟩ := List.mem_map.1 (List.contains_iff_mem.1 this)
    exact ⟨y, hy, e⟩
  · rw [hDf]; intro j o _ hj; cases hj
  · have := List.countP_le_length (p := fun i => !(Array.replicate ops.size false).getD i false) (l := List.range ops.size)
    simpa using this
  · rw [hDf]; exact Hg.drew
  · rw [hDf, hT]; exact T
  · rw [hDf]; exact ⟨MP.le_refl m, hnx, fun _ _ => rfl⟩
  · exact ⟨rfl, rfl, rfl, Nat.le_refl _, fun _ _ => rfl⟩
  · intro x hx hw hh _ n hn
    rw [hDf]
    obtain ⟨n', e', hn'⟩ := (laid_next T0 hpw).1 x hx hw hh
    rw [hn] at e'
    cases e'
    exact ⟨H.fresh hn', (next_le T0 hpw).2 x hx hw hh n hn⟩

end
end Go.Amb
