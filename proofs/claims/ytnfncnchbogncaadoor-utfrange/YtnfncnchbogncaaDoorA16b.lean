/- Part of the proof by the abstract machine: no claim of its own. -/
import Derived.Test.YtnfncnchbogncaaDoorA16
import Derived.RangeFuncNested
set_option linter.unusedSimpArgs false
set_option linter.unusedVariables false
set_option linter.unnecessarySimpa false
set_option linter.unusedSectionVars false
/- The abstract machine, part 16b: a range over a known function; code. -/
set_option linter.unusedVariables false
namespace Go.Amb
open Go.RowKit

/-! ### Blocks that the machine does not know -/
def Kept.plus (B : Kept) (O : List Nat) : Kept := ⟨B.old, fun i => B.own i ∨ i ∈ O⟩
theorem Kept.plus_of {B : Kept} {O : List Nat} {i : Nat} (h : B i) : B.plus O i := h.elim .inl fun h => .inr (.inl h)

theorem ORel.less {m : MP} {B S : Kept} {w : World} {r : Ref} {o : AObj} (hs : ∀ i, B i → S i) (h : ORel m S w r o) : ORel m B w r o := by
  cases o with
  | gone => trivial
  | cells vs e opn ro =>
    obtain ⟨h1, h2, c, fr, h3, hz, h4, h5⟩ := h
    exact ⟨h1, h2, c, fr, h3, hz, h4, fun e => ⟨fun q => (h5 e).1 (hs _ q), (h5 e).2⟩⟩
  | map kv => exact ⟨fun q => h.1 (hs _ q), h.2⟩
  | iter s pos => exact ⟨fun q => h.1 (hs _ q), h.2⟩
theorem HRel.less {B S : Kept} {m : MP} {h : AHeap} {w : World} (H : HRel S m h w) (ho : S.old = B.old) (hs : ∀ i, B.own i → S.own i) : HRel B m h w := by
  have hs' : ∀ i, B i → S i := fun i hi => hi.elim (fun q => .inl (by rw [ho]; exact q)) (fun q => .inr (hs i q))
  refine ⟨fun i r hi => (H.obj i r hi).less hs', fun i j r s hi hj hb hB gi gj => H.one i j r s hi hj hb (fun q => ?_) gi gj, H.dom, fun k hk => H.size k (hs' k hk), fun i hi hl => H.old i (by rw [ho]; exact hi) hl, H.zed, fun i r hi q => H.own i r hi (hs _ q)⟩
  rcases q with q | q
  · exact hB (.inl (by rw [← ho]; exact q))
  · exact H.own i r hi q
/-- A block of one's own. -/
theorem HRel.mine {B : Kept} {m : MP} {h : AHeap} {w : World} (H : HRel B m h w) (ob : Obj) : HRel (B.plus [w.heap.size]) m h (w.alloc ob) := by
  have hne : ∀ i r, m i = some r → r.b ≠ w.heap.size := fun i r hi e => by have := (H.dom i r hi).2; omega
  have hblk : ∀ i r, m i = some r → (w.alloc ob).heap[r.b]? = w.heap[r.b]? := fun i r hi => heap_alloc_lt _ _ _ (H.dom i r hi).2
  have hB : ∀ i r, m i = some r → ¬ B r.b → ¬ (B.plus [w.heap.size]) r.b := fun i r hi hb q => by
    rcases q with q | q | q
    · exact hb (.inl q)
    · exact hb (.inr q)
    · exact hne i r hi (by simpa using q)
  refine ⟨fun i r hi => ?_, fun i j r s hi hj hb hB' gi gj => H.one i j r s hi hj hb (fun q => hB' (Kept.plus_of q)) gi gj, fun i r hi => ?_, fun k hk => ?_, H.old, H.zed, fun i r hi q => ?_⟩
  · have := (H.obj i r hi).of_block (MP.le_refl m) (hblk i r hi)
    generalize h.get i = o at this
    cases o with
    | gone => trivial
    | cells vs e opn ro =>
      obtain ⟨h1, h2, c, fr, h3, hz, h4, h5⟩ := this
      exact ⟨h1, h2, c, fr, h3, hz, h4, fun e => ⟨hB i r hi (h5 e).1, (h5 e).2⟩⟩
    | map kv => exact ⟨hB i r hi this.1, this.2⟩
    | iter s pos => exact ⟨hB i r hi this.1, this.2⟩
  · have := H.dom i r hi
    exact ⟨this.1, by simp; omega⟩
  · rcases hk with hk | hk | hk
    · have := H.size k (.inl hk); simp; omega
    · have := H.size k (.inr hk); simp; omega
    · have : k = w.heap.size := by simpa using hk
      simp; omega
  · rcases q with q | q
    · exact H.own i r hi q
    · exact hne i r hi (by simpa using q)
theorem HRel.mineTurn {B : Kept} {m : MP} {h : AHeap} {w : World} (H : HRel B m h w) {r : Nat} (hr : B.own r) (ob : Obj) : HRel B m h (w.putObj r ob) :=
  ⟨fun i s hi => (H.obj i s hi).of_block (MP.le_refl m) (World.putObj_heap_other fun e => H.own i s hi (by rw [e]; exact hr)), H.one, fun i s hi => ⟨(H.dom i s hi).1, by rw [World.putObj_size]; exact (H.dom i s hi).2⟩, fun k hk => by rw [World.putObj_size]; exact H.size k hk, H.old, H.zed, H.own⟩
theorem HRel.plus_eq {B S : Kept} {m : MP} {h : AHeap} {w : World} (H : HRel S m h w) (ho : S.old = B.old) (hs : ∀ i, B.own i ↔ S.own i) : HRel B m h w := H.less ho fun i q => (hs i).1 q
theorem Bel.putOther {B : Kept} {w w' : World} (h : Bel B w w') {r : Nat} (hr : ¬ B r) (ob : Obj) : Bel B w (w'.putObj r ob) :=
  ⟨h.os, h.tape, h.output, by rw [World.putObj_size]; exact h.size, fun k hk => (World.putObj_heap_other (fun e => hr (by rw [← e]; exact hk))).trans (h.block k hk)⟩

/-! ### What is asked of an iterator that is known -/
def IterOk (P : Program) (gf : FuncId) (it : Iter) : Prop :=
  (∀ args w, (callFunc gf args).run P w = .ok (.enter gf args) w) ∧
  ∀ (l dep : Nat) (B : Kept) (lb lb' : List Value) (J : List Nat → List Value → World → Prop) (Jx Done : World → Prop) (st : List Value) (m : MP) (h : AHeap) (w : World),
    HRel B m h w → LRel m lb lb' → it.start lb h = some st → J [] st w →
    (∀ O st W, J O st W → ∃ m h, HRel (B.plus O) m h W ∧ LRel m lb lb' ∧ ∃ x, it.next lb st h = some x ∧ (x = none → Done W) ∧
      (∀ args st', x = some (args, st') → ∀ args', LRel m args args' → ∀ d, YieldAt Fence.wide d P l args'.toArray W fun e W' =>
        (∀ i, i ∈ O → W'.heap[i]? = W.heap[i]?) ∧ ((e = .returned (.bool true) ∧ J O st' W') ∨ (e = .returned (.bool false) ∧ Jx W')))) →
    (∀ O st W ob, J O st W → J (W.heap.size :: O) st (W.alloc ob)) →
    (∀ O st W r ob, J O st W → r ∈ O → J O st (W.putObj r ob)) →
    CallsIn Fence.wide dep P gf (#[.func (.yield l) #[] #[]] ++ lb'.toArray) w fun e W' => (∃ v, e = .returned v) ∧ (Jx W' ∨ Done W')

def ItsOk (P : Program) (E : Env) : Prop := ∀ f it, E.it.get f = some it → IterOk P f it

section
variable {P : Program} {E : Env} {G nt : Nat}
variable {m : MP} {h : AHeap} {w : World} {tm : PT Value} {a : Act} {call : Call} {k : KX} {r : Ans} {Q : Exit → Act → World → Prop}

theorem TRel.params : ∀ (ps : List Tmp) (args args' : List Value) {tm : PT Value} {t : Array Value} {m : MP} {ds : List Deferred}, TRel nt m tm { tmps := t, defers := ds } → LRel m args args' →
    TRel nt m (setPs ps args tm) { tmps := (ps.zip args').foldl (fun t p => t.setIfInBounds p.1 p.2) t, defers := ds } := by
  intro ps
  induction ps with
  | nil => intro args args' tm t m ds T hl; simpa [setPs] using T
  | cons p ps ih =>
    intro args args' tm t m ds T hl
    cases args with
    | nil =>
      have : args' = [] := List.eq_nil_of_length_eq_zero hl.1.symm
      subst this
      simpa [setPs] using T
    | cons v args =>
      cases args' with
      | nil => have := hl.1; simp at this
      | cons v' args' =>
        simp only [setPs, List.zip_cons_cons, List.foldl_cons]
        refine ih args args' ?_ ⟨by simpa using hl.1, fun i x y hx hy => hl.2 (i + 1) x y (by simpa using hx) (by simpa using hy)⟩
        exact T.put (some p) (hl.2 0 v v' rfl rfl)

theorem foldl_zip_array (ps : Array Tmp) (args : List Value) (t : Array Value) : (ps.zip args.toArray).foldl (fun t (p, v) => t.setIfInBounds p v) t = (ps.toList.zip args).foldl (fun t p => t.setIfInBounds p.1 p.2) t := by
  rw [← Array.foldl_toList]
  simp [Array.toList_zip]

/-- The rounds of a range over a function, and what comes behind. -/
theorem rf_core {ro : Option Nat} {n n' lf : Nat} {x y : Code} {ex ey : PT Value → AHeap → KX → Option Ans}
    (ihx : ∀ {ro : Option Nat} {dep : Nat} {B : Kept} {k : KX} {r : Ans} {m : MP} {h : AHeap} {w : World} {tm : PT Value} {a : Act} {Q : Exit → Act → World → Prop}, (∀ i, i < G → B.old i) → ex tm h k = some r → HRel B m h w → TRel nt m tm a → Rnd ro B w → KOk B nt m h w a.defers k r Q → x.wpIn (FR ro) dep P Q a w)
    (ihy : ∀ {ro : Option Nat} {dep : Nat} {B : Kept} {k : KX} {r : Ans} {m : MP} {h : AHeap} {w : World} {tm : PT Value} {a : Act} {Q : Exit → Act → World → Prop}, (∀ i, i < G → B.old i) → ey tm h k = some r → HRel B m h w → TRel nt m tm a → Rnd ro B w → KOk B nt m h w a.defers k r Q → y.wpIn (FR ro) dep P Q a w)
    {B : Kept} (hG : ∀ i, i < G → B.old i) {l D : Nat} {fn : FuncId} {ps : Array Tmp} {rc : LoopState → Option Code → Loop} (hrc : rc = fun st pe => { state := st, pending := pe, fn, tmps := a.tmps, params := ps, assign := x, body := y, defers := D })
    (hl : w.heap[l]? = some (.loop (rc .ready none))) (H : HRel (B.plus [l]) m h w) (hBl : ¬ B l) (T : TRel nt m tm a)
    {gf : FuncId} {it : Iter} (hit : IterOk P gf it) {lb lb' : List Value} (hlb : LRel m lb lb') {st : List Value} (est : it.start lb h = some st)
    (e : rfE (it.next lb) (fun args h k => match Nat.beq args.length ps.toList.length with
      | true => ex (setPs ps.toList args tm) h fun e tm h => match e with
        | .normal => ey tm h k
        | _ => none
      | false => none) k tm lf st h = some r)
    (hk : KOk B nt m h w a.defers k r Q) :
    CallsIn (FR ro) n P gf (#[.func (.yield l) #[] #[]] ++ lb'.toArray) w (rangePost (FR ro) n' P l Q a) := by
  have hlw : l < w.heap.size := (Array.getElem?_eq_some_iff.1 hl).1
  generalize hrd : (fun (args : List Value) (h : AHeap) (k : KX) => match Nat.beq args.length ps.toList.length with
      | true => ex (setPs ps.toList args tm) h fun e tm h => match e with
        | .normal => ey tm h k
        | _ => none
      | false => none) = rd at e
  have main := hit.2 l n (B.plus [l]) lb lb'
    (fun O st W => ∃ m' h', HRel ((B.plus [l]).plus O) m' h' W ∧ Gr h m h' m' ∧ (∃ n, rfE (it.next lb) rd k tm n st h' = some r) ∧ Bel B w W ∧ W.heap[l]? = some (.loop (rc .ready none)) ∧ ∀ i, i ∈ O → w.heap.size ≤ i)
    (fun W => ∃ (c : Code) (e : XExit) (m' : MP) (h' : AHeap), ((c = .ret ∧ e = .ret) ∨ ∃ id, c = .exit id ∧ e = .exit id) ∧ k e tm h' = some r ∧ HRel (B.plus [l]) m' h' W ∧ Gr h m h' m' ∧ Bel B w W ∧ W.heap[l]? = some (.loop (rc .done (some c))))
    (fun W => ∃ (m' : MP) (h' : AHeap), k .normal tm h' = some r ∧ HRel (B.plus [l]) m' h' W ∧ Gr h m h' m' ∧ Bel B w W ∧ W.heap[l]? = some (.loop (rc .ready none)))
    st m h w H hlb est ⟨m, h, H.less rfl (fun i q => q.elim id (fun q => by cases q)), Gr.refl h m, ⟨lf, e⟩, Bel.refl B w, hl, fun i hi => by cases hi⟩ ?_ ?_ ?_
  · refine CallsIn.mono (show CallsIn (FR ro) n P gf _ w _ from main) fun en W hp => ?_
    obtain ⟨⟨v, rfl⟩, hp⟩ := hp
    rcases hp with ⟨c, ex', m', h', hc, hk', H', g', b', hl'⟩ | ⟨m', h', hk', H', g', b', hl'⟩
    · refine ⟨some c, _, (by have := run_endLoop (P := P) hl' (by rw [hrc]; simp); rw [show ∀ s c, (rc s c).pending = c from fun s c => by rw [hrc]] at this; exact this), ?_⟩
      have H2 : ∀ ob, HRel B m' h' (W.putObj l ob) := fun ob => (H'.mineTurn (.inr (by simp)) ob).less rfl fun i q => .inl q
      have b2 := b'.putOther (r := l) hBl
      rcases hc with ⟨rfl, rfl⟩ | ⟨id, rfl, rfl⟩
      · exact wpIn_ret (hk _ _ _ _ _ _ _ _ hk' g' (H2 _) (T.mono g'.le) (.of_bel _ (b2 _)) .ret)
      · exact wpIn_exit (hk _ _ _ _ _ _ _ _ hk' g' (H2 _) (T.mono g'.le) (.of_bel _ (b2 _)) (.exit id))
    · refine ⟨none, _, (by have := run_endLoop (P := P) hl' (by rw [hrc]; simp); rw [show ∀ s c, (rc s c).pending = c from fun s c => by rw [hrc]] at this; exact this), ?_⟩
      have H2 : ∀ ob, HRel B m' h' (W.putObj l ob) := fun ob => (H'.mineTurn (.inr (by simp)) ob).less rfl fun i q => .inl q
      have b2 := b'.putOther (r := l) hBl
      exact hk _ _ _ _ _ _ _ _ hk' g' (H2 _) (T.mono g'.le) (.of_bel _ (b2 _)) .normal
  · -- what comes next
    rintro O st W ⟨m', h', H', g', ⟨n, e'⟩, b', hl', hO⟩
    cases n with
    | zero => cases e'
    | succ n =>
      obtain ⟨q, eq, e1⟩ := ob_eq e'
      refine ⟨m', h', H', hlb.mono g'.le, q, eq, ?_, ?_⟩
      · rintro rfl
        exact ⟨m', h', e1, H'.less rfl (fun i q => .inl q), g', b', hl'⟩
      · rintro args st' rfl args' hargs d
        have e2 : rd args h' (fun e _ h' => match e with
          | .normal => rfE (it.next lb) rd k tm n st' h'
          | .panic _ => none
          | e => k e tm h') = some r := e1
        generalize hkk : (fun (e : XExit) (_ : PT Value) (h' : AHeap) => match e with
          | .normal => rfE (it.next lb) rd k tm n st' h'
          | .panic _ => none
          | e => k e tm h') = kk at e2
        rw [← hrd] at e2
        simp only at e2
        split at e2
        · rename_i hlen
          have hlen' : args'.toArray.size = ps.size := by
            have := Nat.eq_of_beq_eq_true hlen
            simp only [List.size_toArray, ← hargs.1, this, Array.length_toList]
          have hSl : ((B.plus [l]).plus O) l := .inr (.inl (.inr (by simp)))
          refine ⟨fn, _, x, y, (by have := run_yield (P := P) (args := args'.toArray) hl' (by rw [hrc]; exact hlen'); rw [hrc] at this; exact this), ?_⟩
          rw [foldl_zip_array]
          refine roundIn_of_wpIn (F := Fence.wide) trivial (show x.wpIn (FR (some l)) d P _ _ W from ?_)
          refine ihx (B := (B.plus [l]).plus O) hG e2 H' (TRel.params _ _ _ (show TRel nt m' tm { tmps := a.tmps, defers := [] } from ⟨(T.mono g'.le).sz, (T.mono g'.le).slot⟩) hargs) (fun l' el => by cases el; exact ⟨hSl, _, hl'⟩) ?_
          intro S ex2 tm2 h2 m2 w2 a2 en2 hk2 g2 H2 T2 d2 hx2
          cases hx2 with
          | exit id => cases hk2
          | ret => cases hk2
          | panic hv => cases hk2
          | normal =>
            have hSl2 : S.own l := d2.own l (.inl (.inr (by simp)))
            have hl2 : w2.heap[l]? = some (.loop (rc .ready none)) := (d2.bel.block l hSl).trans hl'
            have hlt2 : l < w2.heap.size := (Array.getElem?_eq_some_iff.1 hl2).1
            refine ⟨_, run_beginRound hl2 (by rw [hrc]), ?_⟩
            have hl3 : (w2.putObj l (.loop { rc .ready none with state := .busy })).heap[l]? = some (.loop { rc .ready none with state := .busy }) := World.putObj_heap_same hlt2
            generalize hw3 : w2.putObj l (.loop { rc .ready none with state := .busy }) = w3 at hl3 ⊢
            refine ihy (ro := some l) (B := S) (by rw [d2.old]; exact hG) (show ey tm2 h2 _ = some r from hk2) (by rw [← hw3]; exact H2.mineTurn hSl2 _) T2 (fun l' el => by cases el; exact ⟨.inr hSl2, _, hl3⟩) ?_
            intro S4 ex4 tm4 h4 m4 w4 a4 en4 hk4 g4 H4 T4 d4 hx4
            have hSl4 : S4.own l := d4.own l hSl2
            have hl4 : w4.heap[l]? = some (.loop { rc .ready none with state := .busy }) := (d4.bel.block l (.inr hSl2)).trans hl3
            have b4 : Bel B w w4 := by
              refine (b'.trans (d2.bel.mono fun i hi => Kept.plus_of (Kept.plus_of hi))).trans (Bel.trans ?_ (d4.bel.mono fun i hi => d2.sub (Kept.plus_of (Kept.plus_of hi))))
              rw [← hw3]
              exact (Bel.refl B w2).putOther hBl _
            have hO4 : ∀ ob i, i ∈ O → (w4.putObj l ob).heap[i]? = W.heap[i]? := fun ob i hi => by
              have hne : i ≠ l := by have := hO i hi; omega
              have hown : ((B.plus [l]).plus O).own i := .inr hi
              rw [World.putObj_heap_other hne, d4.bel.block i (.inr (d2.own i hown)), ← hw3, World.putObj_heap_other hne, d2.bel.block i (.inr hown)]
            have hH4 : ∀ ob, HRel ((B.plus [l]).plus O) m4 h4 (w4.putObj l ob) := fun ob => (H4.mineTurn hSl4 ob).less (d4.old.trans d2.old) fun i q => d4.own i (d2.own i q)
            have g6 : Gr h m h4 m4 := g'.trans (g2.trans g4)
            have hlt4 : l < w4.heap.size := (Array.getElem?_eq_some_iff.1 hl4).1
            rw [← hkk] at hk4
            cases hx4 with
            | panic hv => cases hk4
            | normal =>
              have hr := run_endRound (P := P) none hl4
              refine ⟨_, _, hr, hO4 _, .inl ⟨rfl, m4, h4, hH4 _, g6, ⟨n, hk4⟩, b4.putOther hBl _, ?_, hO⟩⟩
              rw [World.putObj_heap_same hlt4, hrc]
              rfl
            | ret =>
              have hr := run_endRound (P := P) (some .ret) hl4
              refine ⟨_, _, hr, hO4 _, .inr ⟨rfl, .ret, .ret, m4, h4, .inl ⟨rfl, rfl⟩, hk4, (hH4 _).less rfl (fun i q => .inl q), g6, b4.putOther hBl _, ?_⟩⟩
              rw [World.putObj_heap_same hlt4, hrc]
              rfl
            | exit id =>
              have hr := run_endRound (P := P) (some (.exit id)) hl4
              refine ⟨_, _, hr, hO4 _, .inr ⟨rfl, .exit id, .exit id, m4, h4, .inr ⟨id, rfl, rfl⟩, hk4, (hH4 _).less rfl (fun i q => .inl q), g6, b4.putOther hBl _, ?_⟩⟩
              rw [World.putObj_heap_same hlt4, hrc]
              rfl
        · cases e2
  · -- a block of the iterator's own
    rintro O st W ob ⟨m', h', H', g', e', b', hl', hO⟩
    refine ⟨m', h', (H'.mine ob).less rfl (fun i q => ?_), g', e', b'.alloc (fun k hk => H'.size k (Kept.plus_of (Kept.plus_of hk))) ob, (heap_alloc_lt _ _ _ (Array.getElem?_eq_some_iff.1 hl').1).trans hl', fun i hi => ?_⟩
    · rcases q with q | q
      · exact .inl (.inl q)
      · rcases List.mem_cons.1 q with rfl | q
        · exact .inr (by simp)
        · exact .inl (.inr q)
    · rcases List.mem_cons.1 hi with rfl | hi
      · exact b'.size
      · exact hO i hi
  · rintro O st W q ob ⟨m', h', H', g', e', b', hl', hO⟩ hq
    have hql : q ≠ l := by have := hO q hq; omega
    refine ⟨m', h', H'.mineTurn (.inr hq) ob, g', e', b'.putOther (fun hb => ?_) ob, (World.putObj_heap_other (Ne.symm hql)).trans hl', hO⟩
    have h1 := hO q hq
    have h2 : q < w.heap.size := H.size q (Kept.plus_of hb)
    omega

end
end Go.Amb
