/- Part of the proof by the abstract machine: no claim of its own. -/
import Derived.Test.YtnfncnchbogncaaDoorA13
set_option linter.unusedSimpArgs false
set_option linter.unusedVariables false
set_option linter.unnecessarySimpa false
set_option linter.unusedSectionVars false
/- The abstract machine, part 14: maps; calls; any operation. -/
set_option linter.unusedVariables false
namespace Go.Amb
open Go.RowKit

/-- What a call comes to, side by side. -/
def Post (B : Kept) (m : MP) (h : AHeap) (w : World) : Ans → Ending → World → Prop
  | .ret v h', .returned v', w' => ∃ m', Gr h m h' m' ∧ HRel B m' h' w' ∧ VRel m' v v' ∧ Bel B w w'
  | .panic v h', .panicked chain, w' => ∃ m' v', chain = [{ v := v', recovered := false }] ∧ Gr h m h' m' ∧ HRel B m' h' w' ∧ VRel m' v v' ∧ Bel B w w'
  | _, _, _ => False
def CallOk (P : Program) (B : Kept) (call : Call) : Prop := ∀ f args h r, call f args h = some r → ∀ m w args', HRel B m h w → LRel m args args' → Calls P f args'.toArray w (Post B m h w r)

section
variable {P : Program} {E : Env} {G nt : Nat} {B : Kept}
variable {m : MP} {h : AHeap} {w : World} {tm : PT Value} {a : Act} {call : Call} {k kp : KV} {r : Ans}

/-! ### Maps -/
def flatKey (v : Value) : Prop := (∃ s, v = .string s) ∨ ∃ kd n, v = .int kd n
theorem strEq_beq (x y : ByteArray) : (x == y) = strEq x y := (beq_toListBytes x y).trans (strEq_toList x y)
def keyIs (d : TypeDesc) : Value → Prop
  | .string _ => d = .string
  | .int _ _ => ∃ kd, d = .int kd
  | _ => False
theorem keyOk_eq {d : TypeDesc} {v v' : Value} (hf : keyOk d v = true) (hv : VRel m v v') : v' = v ∧ ((∃ kd, d = .int kd) ∨ d = .string) ∧ keyIs d v := by
  unfold keyOk at hf
  split at hf
  · exact ⟨hv.int_inv, .inl ⟨_, rfl⟩, _, rfl⟩
  · exact ⟨hv.string_inv, .inr rfl, rfl⟩
  · cases hf
/-- Are the entries, side by side, as they should be? -/
def MRel (m : MP) (kv : List (Value × Value)) (es : List MapEntry) : Prop := kv.length = es.length ∧ ∀ (i : Nat) p e, kv[i]? = some p → es[i]? = some e → VRel m p.1 e.key ∧ VRel m p.2 e.val
theorem MRel.tail {p : Value × Value} {kv : List (Value × Value)} {e : MapEntry} {es : List MapEntry} (h : MRel m (p :: kv) (e :: es)) : MRel m kv es :=
  ⟨by simpa using h.1, fun i q f a b => h.2 (i + 1) q f (by simpa using a) (by simpa using b)⟩

theorem find_run {d : TypeDesc} (hd : (∃ kd, d = .int kd) ∨ d = .string) : ∀ {kv : List (Value × Value)} {es : List MapEntry} {key : Value} {q : Option Value} (i : Nat), MRel m kv es → mfind? kv key = some q →
    keyIs d key →
    (q = none ∧ Instr.findNow d key es i = some none) ∨ (∃ v v' j, q = some v ∧ Instr.findNow d key es i = some (some (i + j, v')) ∧ VRel m v v' ∧ j < es.length) := by
  intro kv
  induction kv with
  | nil =>
    intro es key q i hm e hk
    have : es = [] := List.eq_nil_of_length_eq_zero hm.1.symm
    subst this
    simp only [mfind?, Option.some.injEq] at e
    exact .inl ⟨e.symm, rfl⟩
  | cons p kv ih =>
    intro es key q i hm e hk
    cases es with
    | nil => have := hm.1; simp at this
    | cons en es =>
      obtain ⟨hp1, hp2⟩ := hm.2 0 p en rfl rfl
      have step : ∀ {b : Bool}, Instr.sameNow d key en.key = some b → (b = true → q = some p.2) → (b = false → mfind? kv key = some q) →
          (q = none ∧ Instr.findNow d key (en :: es) i = some none) ∨ (∃ v v' j, q = some v ∧ Instr.findNow d key (en :: es) i = some (some (i + j, v')) ∧ VRel m v v' ∧ j < (en :: es).length) := by
        intro b hs ht hf
        cases b with
        | true => exact .inr ⟨p.2, en.val, 0, ht rfl, by simp [Instr.findNow, hs], hp2, by simp⟩
        | false =>
          rcases ih (i + 1) hm.tail (hf rfl) hk with ⟨h1, h2⟩ | ⟨v, v', j, h1, h2, h3, h4⟩
          · exact .inl ⟨h1, by simp [Instr.findNow, hs, h2]⟩
          · exact .inr ⟨v, v', j + 1, h1, by simp [Instr.findNow, hs, h2]; omega, h3, by simp; omega⟩
      obtain ⟨pk, pv⟩ := p
      unfold mfind? at e
      split at e
      · rename_i heq; cases heq
      · rename_i sa v rr sb heq
        simp only [List.cons.injEq, Prod.mk.injEq] at heq
        obtain ⟨⟨rfl, rfl⟩, rfl⟩ := heq
        have hk1 := hp1.string_inv
        simp only [keyIs] at hk
        refine step (b := strEq sb sa) (by rw [hk1, hk]; simp [Instr.sameNow, strEq_beq]) (fun hb => ?_) (fun hb => ?_)
        · rw [hb] at e; simp at e; exact e.symm
        · rw [hb] at e; simpa using e
      · rename_i ka n v rr kb q2 heq
        simp only [List.cons.injEq, Prod.mk.injEq] at heq
        obtain ⟨⟨rfl, rfl⟩, rfl⟩ := heq
        have hk1 := hp1.int_inv
        split at e
        · rename_i hik
          have := ikEq_eq hik
          subst this
          simp only [keyIs] at hk
          obtain ⟨kd, hkd⟩ := hk
          refine step (b := (q2 == n)) (by rw [hk1, hkd]; simp [Instr.sameNow]) (fun hb => ?_) (fun hb => ?_)
          · rw [hb] at e; simp at e; exact e.symm
          · rw [hb] at e; simpa using e
        · cases e
      · cases e

theorem checkKey_flat {t : TypeId} {i : TI} (hi : i.Ok P t) (hf : (∃ kd, i.d = .int kd) ∨ i.d = .string) (b : Bool) (v : Value) (n : Nat) : (Instr.checkKey b (n + 1) t v).run P w = .ok () w := by
  have hu := run_under hi w
  simp only [Instr.checkKey, Sem.run_bind, hu, Result.andThen_ok]
  rcases hf with ⟨kd, h⟩ | h <;> rw [h] <;> rfl
theorem findKey_run {t : TypeId} {i : TI} (hi : i.Ok P t) {key : Value} {es : List MapEntry} {q : Option (Nat × Value)} (e : Instr.findNow i.d key es 0 = some q) : (Instr.findKey t key es).run P w = .ok q w := by
  have hu := run_under hi w
  simp only [Instr.findKey, Sem.run_bind, hu, Result.andThen_ok, e, Sem.run_pure]

theorem op_lookup (hE : E.Ok P G) (hG : ∀ i, i < G → B.old i) (H : HRel B m h w) (T : TRel nt m tm a) {t : TypeId} {x ix : Operand} {ok : Bool} {o : Oper} (ho : o.op = .lookup t x ix ok) (hx : xOk nt G x = true) (hix : xOk nt G ix = true)
    (e : evOp E call o.op tm h k kp = some r) : OpRes P B m h w (execOp a.eval o) k r := by
  rw [ho] at e
  simp only [evOp, opLookup] at e
  obtain ⟨i, ei, e0⟩ := ob_eq e
  clear e
  have e := e0
  clear e0
  have hi := hE.ti t i ei
  have hu := run_under hi w
  have hv := T.opnd H hG hx
  have hvi := T.opnd H hG hix
  simp only [execOp, ho]
  split at e
  · rename_i kt el rr hd hs
    obtain ⟨ki, eki, e0⟩ := ob_eq e
    clear e
    have e := e0
    clear e0
    obtain ⟨j, ej, e0⟩ := ob_eq e
    clear e
    have e := e0
    clear e0
    have hki := hE.ti _ ki eki
    have hj := hE.ti _ j ej
    rw [hd] at hu
    rw [hs] at hv
    obtain ⟨rf, hr, h2⟩ := hv.map_inv
    split at e
    · cases e
    · rename_i hflat
      obtain ⟨kv, ekv, e0⟩ := ob_eq e
      clear e
      have e := e0
      clear e0
      obtain ⟨q, eq, e0⟩ := ob_eq e
      clear e
      have e := e0
      clear e0
      have hob := H.obj _ _ hr
      unfold AHeap.map? at ekv
      split at ekv
      · rename_i kv' hg
        simp only [Option.some.injEq] at ekv
        subst ekv
        rw [hg] at hob
        obtain ⟨hB, es, cl, h3, h4, h5⟩ := hob
        have hgo : (getObj rf.b).run P w = .ok (.map es cl) w := by simp [getObj, Sem.run, h3]
        have hM : MRel m kv' es.toList := ⟨by simp [h4], fun i p e a b => h5 i p e a (by simpa using b)⟩
        have hz : VRel m j.zero j.zero := VRel.cOk hj.zero.1
        have two : ∀ {u u' : Value} (b : Bool), VRel m u u' → VRel m (.tuple #[u, .bool b]) (.tuple #[u', .bool b]) := fun b hu => (LRel.cons hu (LRel.cons (.bool b) (LRel.nil m))).tuple
        obtain ⟨hk1, hk2, hk3⟩ := keyOk_eq hflat hvi
        have hck := checkKey_flat (w := w) hki hk2 es.isEmpty (a.eval ix) 9999
        rcases find_run hk2 0 hM eq hk3 with ⟨g1, g2⟩ | ⟨v, v', jj, g1, g2, g3, g4⟩
        · subst g1
          have hfk := findKey_run (w := w) hki (key := opnd tm ix) (es := es.toList) g2
          simp only at e
          refine OpRes.mk e (Gr.refl h m) H (v' := cond ok (.tuple #[j.zero, .bool false]) j.zero) ?_ (Bel.refl B w) ?_
          · cases ok
            · exact hz
            · exact two false hz
          · simp only [Instr.lookup, Sem.run_bind, hu, Result.andThen_ok, h2, hgo, Sem.run_pure]
            rw [hck]
            simp only [Result.andThen_ok, hk1, hfk, Sem.run_bind, run_zeroValue hj, Sem.run_pure]
            cases ok <;> rfl
        · subst g1
          have hfk := findKey_run (w := w) hki (key := opnd tm ix) (es := es.toList) g2
          simp only at e
          have e := asTI_eq e
          refine OpRes.mk e (Gr.refl h m) H (v' := cond ok (.tuple #[v', .bool true]) v') ?_ (Bel.refl B w) ?_
          · cases ok
            · exact g3
            · exact two true g3
          · simp only [Instr.lookup, Sem.run_bind, hu, Result.andThen_ok, h2, hgo, Sem.run_pure]
            rw [hck]
            simp only [Result.andThen_ok, hk1, hfk, Sem.run_bind, Sem.run_pure]
            cases ok <;> rfl
      · cases ekv
  · cases e

theorem put_run {d : TypeDesc} {key x : Value} (hk : keyIs d key) : ∀ {kv kv' : List (Value × Value)} {es : List MapEntry} (i : Nat), MRel m kv es → mput? kv key x = some kv' →
    (Instr.findNow d key es i = some none ∧ kv' = kv ++ [(key, x)]) ∨
    (∃ j v' en, Instr.findNow d key es i = some (some (i + j, v')) ∧ es[j]? = some en ∧ en.key = key ∧ kv' = kv.set j (key, x)) := by
  intro kv
  induction kv with
  | nil =>
    intro kv' es i hm e
    have : es = [] := List.eq_nil_of_length_eq_zero hm.1.symm
    subst this
    unfold mput? at e
    split at e
    · simp only [Option.some.injEq] at e; exact .inl ⟨rfl, by rw [← e]; rfl⟩
    · simp only [Option.some.injEq] at e; exact .inl ⟨rfl, by rw [← e]; rfl⟩
    · rename_i heq; cases heq
    · rename_i heq; cases heq
    · cases e
  | cons p kv ih =>
    intro kv' es i hm e
    cases es with
    | nil => have := hm.1; simp at this
    | cons en es =>
      obtain ⟨hp1, hp2⟩ := hm.2 0 p en rfl rfl
      have step : ∀ {b : Bool}, Instr.sameNow d key en.key = some b → (b = true → en.key = key ∧ kv' = (key, x) :: kv) → (b = false → ∃ r, mput? kv key x = some r ∧ kv' = p :: r) →
          (Instr.findNow d key (en :: es) i = some none ∧ kv' = (p :: kv) ++ [(key, x)]) ∨
          (∃ j v' en', Instr.findNow d key (en :: es) i = some (some (i + j, v')) ∧ (en :: es)[j]? = some en' ∧ en'.key = key ∧ kv' = (p :: kv).set j (key, x)) := by
        intro b hs ht hf
        cases b with
        | true => exact .inr ⟨0, en.val, en, by simp [Instr.findNow, hs], rfl, (ht rfl).1, (ht rfl).2⟩
        | false =>
          obtain ⟨r, hr, rfl⟩ := hf rfl
          rcases ih (i + 1) hm.tail hr with ⟨h1, h2⟩ | ⟨j, v', en', h1, h2, h3, h4⟩
          · exact .inl ⟨by simp [Instr.findNow, hs, h1], by rw [h2]; rfl⟩
          · exact .inr ⟨j + 1, v', en', by simp [Instr.findNow, hs, h1]; omega, by simpa using h2, h3, by rw [h4]; rfl⟩
      obtain ⟨pk, pv⟩ := p
      cases key with
      | string sb =>
        simp only [keyIs] at hk
        cases pk with
        | string sa =>
          have hk1 := hp1.string_inv
          have e1 : (match strEq sb sa with | true => some ((.string sb, x) :: kv) | false => ob (mput? kv (.string sb) x) fun r' => some ((.string sa, pv) :: r')) = some kv' := e
          refine step (b := strEq sb sa) (by rw [hk1, hk]; simp [Instr.sameNow, strEq_beq]) (fun hb => ?_) (fun hb => ?_)
          · rw [hb] at e1
            simp only [Option.some.injEq] at e1
            have := (strEq_iff sb sa).1 hb
            exact ⟨by rw [hk1, this], e1.symm⟩
          · rw [hb] at e1
            obtain ⟨r, hr, e2⟩ := ob_eq e1
            simp only [Option.some.injEq] at e2
            exact ⟨r, hr, e2.symm⟩
        | _ => cases e
      | int kb q =>
        simp only [keyIs] at hk
        obtain ⟨kd, hkd⟩ := hk
        cases pk with
        | int ka n =>
          have hk1 := hp1.int_inv
          have e1 : (match ikEq kb ka with | true => (match q == n with | true => some ((.int kb q, x) :: kv) | false => ob (mput? kv (.int kb q) x) fun r' => some ((.int ka n, pv) :: r')) | false => none) = some kv' := e
          split at e1
          · rename_i hik
            have := ikEq_eq hik
            subst this
            refine step (b := (q == n)) (by rw [hk1, hkd]; simp [Instr.sameNow]) (fun hb => ?_) (fun hb => ?_)
            · rw [hb] at e1
              simp only [Option.some.injEq] at e1
              have : q = n := by simpa using hb
              exact ⟨by rw [hk1, this], e1.symm⟩
            · rw [hb] at e1
              obtain ⟨r, hr, e2⟩ := ob_eq e1
              simp only [Option.some.injEq] at e2
              exact ⟨r, hr, e2.symm⟩
          · cases e1
        | _ => cases e
      | _ => exact absurd hk (by simp [keyIs])

theorem sameBits_key {v : Value} {d : TypeDesc} (hk : keyIs d v) (n : Nat) : Instr.sameBits n v v = true := by
  cases v <;> simp [keyIs] at hk <;> cases n <;> simp [Instr.sameBits] <;> (rw [strEq_beq]; exact (strEq_iff _ _).2 rfl)

theorem op_mapUpdate (hE : E.Ok P G) (hG : ∀ i, i < G → B.old i) (H : HRel B m h w) (T : TRel nt m tm a) {t : TypeId} {mo kx v : Operand} {o : Oper} (ho : o.op = .mapUpdate t mo kx v ∨ o.op = .insert t mo kx v)
    (hx : xOk nt G mo = true) (hkx : xOk nt G kx = true) (hvx : xOk nt G v = true)
    (e : evOp E call o.op tm h k kp = some r) : OpRes P B m h w (execOp a.eval o) k r := by
  have hop : execOp a.eval o = (do Instr.mapUpdate t (a.eval mo) (a.eval kx) (a.eval v); pure .skip) := by
    rcases ho with ho | ho <;> simp only [execOp, ho]
  rw [hop]
  have e0 : (ob (E.ti.get t) fun i => match i.d, opnd tm mo with
    | .map kt e, .map (some r) => ob (E.ti.get kt) fun ki => match keyOk ki.d (opnd tm kx) with
      | false => none
      | true => ob (h.map? r) fun kv => ob (mput? kv (opnd tm kx) (opnd tm v)) fun kv' => k undef (h.set r (.map kv'))
    | _, _ => none) = some r := by
    rcases ho with ho | ho <;> rw [ho] at e <;> exact e
  clear e
  obtain ⟨i, ei, e⟩ := ob_eq e0
  clear e0
  have hi := hE.ti t i ei
  have hu := run_under hi w
  have hv := T.opnd H hG hx
  have hvk := T.opnd H hG hkx
  have hvv := T.opnd H hG hvx
  split at e
  · rename_i kt el rr hd hs
    obtain ⟨ki, eki, e0⟩ := ob_eq e
    clear e
    have e := e0
    clear e0
    have hki := hE.ti _ ki eki
    rw [hd] at hu
    rw [hs] at hv
    obtain ⟨rf, hr, h2⟩ := hv.map_inv
    split at e
    · cases e
    · rename_i hflat
      obtain ⟨kv, ekv, e0⟩ := ob_eq e
      clear e
      have e := e0
      clear e0
      obtain ⟨kv', ekv', e0⟩ := ob_eq e
      clear e
      have e := e0
      clear e0
      have hob := H.obj _ _ hr
      unfold AHeap.map? at ekv
      split at ekv
      · rename_i kv0 hg
        simp only [Option.some.injEq] at ekv
        subst ekv
        rw [hg] at hob
        obtain ⟨hB, es, cl, h3, h4, h5⟩ := hob
        have hb : rf.b < w.heap.size := (Array.getElem?_eq_some_iff.1 h3).1
        have hgo : (getObj rf.b).run P w = .ok (.map es cl) w := by simp [getObj, Sem.run, h3]
        have hM : MRel m kv0 es.toList := ⟨by simp [h4], fun i p e a b => h5 i p e a (by simpa using b)⟩
        obtain ⟨hk1, hk2, hk3⟩ := keyOk_eq hflat hvk
        have hck := checkKey_flat (w := w) hki hk2 false (a.eval kx) 9999
        have hset : ∀ (es' : Array MapEntry) (c' : Nat), (setObj rf.b (.map es' c')).run P w = .ok () { w with heap := w.heap.setIfInBounds rf.b (.map es' c') } := fun es' c' => by simp [setObj, Sem.run, h3]
        have hkey : VRel m (opnd tm kx) (opnd tm kx) := by rw [hk1] at hvk; exact hvk
        rcases put_run hk3 0 hM ekv' with ⟨g1, g2⟩ | ⟨jj, v', en, g1, g2, g3, g4⟩
        · have hfk := findKey_run (w := w) hki (key := opnd tm kx) (es := es.toList) g1
          obtain ⟨s1, s2⟩ := heap_setObj (w := w) (.map (es.push { key := opnd tm kx, val := a.eval v, born := cl }) (cl + 1)) hb
          refine OpRes.mkU e (Gr.keep rfl) (H.turn hr hB (by rw [hg]; simp) (.map kv') (by simp) s2 ⟨hB, _, _, s1, by rw [g2]; simp [h4], fun i p f hp hf => ?_⟩) ⟨rfl, rfl, rfl, by simp, fun q hq => s2 q (fun e => hB (by rw [← e]; exact hq))⟩ ?_
          · rw [g2] at hp
            rw [Array.getElem?_push] at hf
            split at hf
            · rename_i hi2
              simp only [Option.some.injEq] at hf
              subst hf
              rw [hi2, h4, List.getElem?_append_right (Nat.le_refl _)] at hp
              simp at hp
              subst hp
              exact ⟨hkey, hvv⟩
            · rename_i hi2
              have hlt : i < es.size := (Array.getElem?_eq_some_iff.1 hf).1
              rw [List.getElem?_append_left (by omega)] at hp
              exact h5 i p f hp hf
          · simp only [Instr.mapUpdate, Sem.run_bind, hu, Result.andThen_ok, h2, hgo]
            rw [hck]
            simp only [Result.andThen_ok, hk1, hfk, hset]
        · have hfk := findKey_run (w := w) hki (key := opnd tm kx) (es := es.toList) g1
          obtain ⟨s1, s2⟩ := heap_setObj (w := w) (.map (es.modify jj fun e => { e with key := opnd tm kx, val := a.eval v }) cl) hb
          refine OpRes.mkU e (Gr.keep rfl) (H.turn hr hB (by rw [hg]; simp) (.map kv') (by simp) s2 ⟨hB, _, _, s1, by rw [g4]; simp [h4], fun i p f hp hf => ?_⟩) ⟨rfl, rfl, rfl, by simp, fun q hq => s2 q (fun e => hB (by rw [← e]; exact hq))⟩ ?_
          · rw [g4] at hp
            rw [Array.getElem?_modify] at hf
            by_cases hij : jj = i
            · subst hij
              rw [if_pos rfl] at hf
              simp only [Option.map_eq_some_iff] at hf
              obtain ⟨f0, _, rfl⟩ := hf
              have hlt : jj < kv0.length := by
                have := (List.getElem?_eq_some_iff.1 g2).1
                simp at this
                omega
              rw [List.getElem?_set_self hlt] at hp
              simp only [Option.some.injEq] at hp
              subst hp
              exact ⟨hkey, hvv⟩
            · rw [if_neg hij] at hf
              rw [List.getElem?_set_ne hij] at hp
              exact h5 i p f hp hf
          · have g2' : es[jj]? = some en := by simpa using g2
            have hstay : (Instr.keyThatStays en.key (opnd tm kx)).run P w = .ok (opnd tm kx) w := by
              simp only [Instr.keyThatStays, g3, sameBits_key hk3, if_true, Sem.run_pure]
            simp only [Nat.zero_add] at hfk
            simp only [Instr.mapUpdate, Sem.run_bind, hu, Result.andThen_ok, h2, hgo]
            rw [hck]
            simp only [Result.andThen_ok, hk1, hfk, Sem.run_bind, g2', Option.map_some, Option.getD_some, hstay, hset]
      · cases ekv
  · cases e

end
end Go.Amb
