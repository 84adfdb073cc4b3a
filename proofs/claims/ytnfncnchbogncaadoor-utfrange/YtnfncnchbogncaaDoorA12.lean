/- Part of the proof by the abstract machine: no claim of its own. -/
import Derived.Test.YtnfncnchbogncaaDoorA9b
import Derived.Test.YtnfncnchbogncaaDoorA10
import Derived.Laws.AppendOwn
set_option linter.unusedSimpArgs false
set_option linter.unusedVariables false
set_option linter.unnecessarySimpa false
set_option linter.unusedSectionVars false
/- The abstract machine, part 12: append, and the other builtins. -/
set_option linter.unusedVariables false
namespace Go.Amb
open Go.RowKit

section
variable {P : Program} {E : Env} {G nt : Nat} {B : Kept}
variable {m : MP} {h : AHeap} {w : World} {tm : PT Value} {a : Act} {call : Call} {k kp : KV} {r : Ans}

theorem firstCells_zero (sz : Nat) (ad : Addr) (l c : Nat) (w1 : World) : (Builtin.firstCells sz 0 (.slice (some ad) l c)).run P w1 = .ok #[] w1 := by
  simp only [Builtin.firstCells, Nat.zero_mul]
  exact Go.run_loadCells_list (P := P) w1 ad [] fun j v h => by simp at h
theorem src_run {sz n : Nat} {x x' : Value} {vs : List Value} (H : HRel B m h w) (e : srcOf h sz x = some (n, vs)) (hx : VRel m x x') :
    ∃ vs' : List Value, LRel m vs vs' ∧ vs.length = n * sz ∧ (Builtin.lenOf x').run P w = .ok n w ∧ ∀ w1 : World, w1.heap = w.heap → (Builtin.firstCells sz n x').run P w1 = .ok vs'.toArray w1 := by
  unfold srcOf at e
  split at e
  · simp only [Option.some.injEq, Prod.mk.injEq] at e
    obtain ⟨rfl, rfl⟩ := e
    obtain ⟨_, _, h1⟩ := hx.nilSlice_inv
    subst h1
    exact ⟨[], LRel.nil m, by simp, by simp [Builtin.lenOf], fun w1 _ => by simp [Builtin.firstCells]⟩
  · rename_i ad n0 c
    obtain ⟨l, el, e⟩ := ob_eq e
    simp only [Option.some.injEq, Prod.mk.injEq] at e
    obtain ⟨e1, e2⟩ := e
    subst e1 e2
    obtain ⟨hl1, hl2⟩ := row?_eq el
    rcases hx.slice_inv with ⟨_, hlc, rf, y, c', hr, h1, hcc, hy⟩ | ⟨_, hl0, hc0, ad', h1⟩
    rotate_left
    · subst h1 hl0
      have : l = [] := List.eq_nil_of_length_eq_zero (by simpa using hl1)
      subst this
      exact ⟨[], LRel.nil m, by simp, by simp [Builtin.lenOf], fun w1 _ => firstCells_zero _ _ _ _ _⟩
    subst h1
    obtain ⟨vs', hL, hR⟩ := H.cells hr hl2
    refine ⟨vs', hL, hl1, by simp [Builtin.lenOf], fun w1 hw => ?_⟩
    have hlen : vs'.length = n0 * sz := by rw [← hL.1, hl1]
    simp only [Builtin.firstCells]
    rw [← hlen]
    refine Go.run_loadCells_list (P := P) w1 _ vs' fun j v hj => ?_
    have hpos : 0 < n0 * sz := by rw [← hlen]; exact Nat.lt_of_le_of_lt (Nat.zero_le j) (List.getElem?_eq_some_iff.1 hj).1
    have hn0 : 0 < n0 := Nat.pos_of_mul_pos_right hpos
    have hy' : y = rf.o + ad.off := by
      rcases hy with hy | hy
      · exact hy
      · rcases hcc with g | ⟨g, _⟩ <;> omega
    have := hR j v hj
    rw [hy', World.cell?, hw]
    exact this
  · rename_i s
    split at e
    · rename_i hs
      have hs := Nat.eq_of_beq_eq_true hs
      subst hs
      simp only [Option.some.injEq, Prod.mk.injEq] at e
      obtain ⟨rfl, rfl⟩ := e
      have h1 := hx.string_inv
      subst h1
      refine ⟨s.data.toList.map fun b => .int .u8 b.toNat, ?_, by rw [List.length_map, Nat.mul_one]; rfl, by simp [Builtin.lenOf], fun w1 _ => ?_⟩
      · refine ⟨rfl, fun i v v' p q => ?_⟩
        rw [p] at q
        simp only [Option.some.injEq] at q
        subst q
        simp only [List.getElem?_map, Option.map_eq_some_iff] at p
        obtain ⟨b, _, rfl⟩ := p
        exact .int _ _
      · have : s.extract 0 s.size = s := by simp
        simp only [Builtin.firstCells, this, Sem.run_pure]
        congr 1
        apply Array.ext'
        rw [Array.toList_map]
    · cases e
  · cases e

/-- Behind a growth the new block. -/
theorem HRel.grow {vs : List Value} (H : HRel B m h w) (c : Array Value) (e : TypeId) (sz : Nat) (hl : ∀ (k : Nat) v, vs[k]? = some v → ∃ v', c[k]? = some v' ∧ VRel m v v') :
    ∃ m', Gr h m (h.new (.cells vs e (some sz) false)) m' ∧ m' h.next = some ⟨w.heap.size, 0, vs.length, c.size, some sz⟩ ∧ HRel B m' (h.new (.cells vs e (some sz) false)) (w.alloc (.cells c e)) := by
  obtain ⟨h1, h2⟩ := H.alloc (.cells vs e (some sz) false) (.cells c e) ⟨w.heap.size, 0, vs.length, c.size, some sz⟩ rfl ⟨rfl, rfl, c, (0, 0), heap_alloc_self _ _, rfl, fun k v hv => by
    obtain ⟨v', a, b⟩ := hl k v hv
    exact ⟨v', by simpa using a, b.mono (MP.le_put (H.fresh (Nat.le_refl _)))⟩, fun _ => ⟨H.free, fun k _ => by simp⟩⟩
  exact ⟨_, h2, MP.put_same _ _ _, h1⟩

/-- The growing way of append, in the real world. -/
theorem grow_run {t t2 el : TypeId} {ty : TypeId} {j : TI} (ht : P.underlying t = some (.slice el)) (hu2 : ∃ d2, P.underlying t2 = some d2 ∧ ∀ kd, d2 ≠ .int kd) (hj : j.Ok P el)
    {s' : Option Addr} {len cap n : Nat} {x' : Value} {olds news : List Value}
    (hn : (Builtin.lenOf x').run P w = .ok n w) (hnews : ∀ w1 : World, w1.heap = w.heap → (Builtin.firstCells j.lk.length n x').run P w1 = .ok news.toArray w1)
    (holds : ∀ w1 : World, w1.heap = w.heap → (Builtin.firstCells j.lk.length len (.slice s' len cap)).run P w1 = .ok olds.toArray w1)
    (hlt : cap < len + n) (hbytes : (len + n) * j.bytes ≤ 70368744177664) (hb0 : 0 < j.bytes) :
    ∃ c : Array Value, ∃ newCap : Nat, len + n ≤ newCap ∧ c.toList = olds ++ news ++ (Builtin.zeroCells j.zero.cells (newCap - (len + n))).toList ∧
      (Builtin.append_ #[t, t2] ty #[.slice s' len cap, x']).run P w = .ok (.slice (some ⟨w.heap.size, 0, none⟩) (len + n) newCap) (w.drew.alloc (.cells c el)) := by
  obtain ⟨d2, hd2, hd2n⟩ := hu2
  obtain ⟨ji, q1, q2, q3, q4⟩ := hj.info
  have hle : len + n ≤ 70368744177664 := Nat.le_trans (Nat.le_mul_of_pos_right _ hb0) hbytes
  refine ⟨olds.toArray ++ news.toArray ++ Builtin.zeroCells j.zero.cells (grownCap w (len + n) cap el - (len + n)), grownCap w (len + n) cap el, grownCap_ge w _ _ _, by simp, ?_⟩
  have hfit : ¬ Builtin.nextslicecap (len + n) cap * j.bytes > 2 ^ 48 := by
    have := growslice_fits (bytes := j.bytes) hlt (by omega)
    omega
  have hbig : ¬ (((len + n : Nat) : Int) > IntKind.i64.max ∧ ((false = true) ∨ j.bytes = 0)) := by
    rintro ⟨_, g | g⟩
    · cases g
    · omega
  have hint : (match d2 with | .int _ => true | _ => false) = false := by
    cases d2 <;> first
      | rfl
      | exact absurd rfl (hd2n _)
  have hN := hnews w.drew rfl
  have hO := holds w.drew rfl
  have hi1 : ∀ w : World, (underlying t).run P w = .ok (.slice el) w := fun w => by simp [underlying, ht]
  have hi2 : ∀ w : World, (underlying t2).run P w = .ok d2 w := fun w => by simp [underlying, hd2]
  have hti : ∀ w : World, (typeInfo el).run P w = .ok ji w := fun w => run_typeInfo q1 w
  have hso : ∀ w : World, (sizeOf el).run P w = .ok j.lk.length w := fun w => run_sizeOf hj w
  have hzv : ∀ w : World, (zeroValue el).run P w = .ok j.zero w := fun w => run_zeroValue hj w
  simp only [Builtin.append_, List.getElem?_toArray, List.getElem?_cons_zero, List.getElem?_cons_succ, Sem.run_bind, hi1, hi2, hso, Result.andThen_ok, Sem.run_pure, hint, Bool.false_eq_true, if_false, hn]
  rw [if_neg (show ¬ len + n ≤ cap by omega)]
  simp only [Sem.run_bind, hti, Result.andThen_ok, q3]
  have hb0' : ¬ j.bytes = 0 := by omega
  simp only [Bool.not_false, if_true, hb0', or_false, false_or, and_false, if_false, Sem.run_bind, hti, Result.andThen_ok, q3, false_and]
  rw [if_neg hfit]
  simp only [Sem.run_bind, run_choose, Question.forced, Bool.false_eq_true, if_false, Result.andThen_ok, hti, q3, run_askRoom, World.drew_eq, hO, hN, hzv, newRow, run_newObj, Sem.run_pure, World.alloc_eq, World.size_drew]
  rfl

/-- What append comes to, side by side. -/
theorem app_run {t t2 el : TypeId} {ty : TypeId} {j : TI} (ht : P.underlying t = some (.slice el)) (hu2 : ∃ d2, P.underlying t2 = some d2 ∧ ∀ kd, d2 ≠ .int kd) (hj : j.Ok P el) (H : HRel B m h w)
    {s q : SL} {h' : AHeap} {n : Nat} {vs vs' : List Value} {sv x' : Value} (e : h.app el j.lk.length j.bytes s n vs = some (q, h')) (hs : VRel m (.slice s.a s.len s.cap) sv)
    (hL : LRel m vs vs') (hlen : vs.length = n * j.lk.length) (hn : (Builtin.lenOf x').run P w = .ok n w)
    (hnews : ∀ w1 : World, w1.heap = w.heap → (Builtin.firstCells j.lk.length n x').run P w1 = .ok vs'.toArray w1) :
    ∃ v' m' w', Gr h m h' m' ∧ HRel B m' h' w' ∧ VRel m' (.slice q.a q.len q.cap) v' ∧ Bel B w w' ∧ (Builtin.append_ #[t, t2] ty #[sv, x']).run P w = .ok v' w' := by
  obtain ⟨ji, q1, q2, q3, q4⟩ := hj.info
  have hi1 : ∀ w : World, (underlying t).run P w = .ok (.slice el) w := fun w => by simp [underlying, ht]
  obtain ⟨d2, hd2, hd2n⟩ := hu2
  have hi2 : ∀ w : World, (underlying t2).run P w = .ok d2 w := fun w => by simp [underlying, hd2]
  have hso : ∀ w : World, (sizeOf el).run P w = .ok j.lk.length w := fun w => run_sizeOf hj w
  have hint : (match d2 with | .int _ => true | _ => false) = false := by
    cases d2 <;> first
      | rfl
      | exact absurd rfl (hd2n _)
  unfold AHeap.app at e
  split at e
  · -- nothing is appended
    rename_i hn0
    have hn0 := Nat.eq_of_beq_eq_true hn0
    subst hn0
    simp only [Option.some.injEq, Prod.mk.injEq] at e
    obtain ⟨rfl, rfl⟩ := e
    have hvs : vs' = [] := List.eq_nil_of_length_eq_zero (by rw [← hL.1, hlen]; simp)
    subst hvs
    refine ⟨sv, m, w, Gr.refl h m, H, hs, Bel.refl B w, ?_⟩
    have hN := hnews w rfl
    cases ha : s.a with
    | none =>
      rw [ha] at hs
      obtain ⟨_, _, h1⟩ := hs.nilSlice_inv
      subst h1
      simp [Builtin.append_, hi1, hi2, hso, hn, hN]
    | some ad =>
      rw [ha] at hs
      rcases hs.slice_inv with ⟨_, hlc, rf, y, c', hr, h1, hcc, hy⟩ | ⟨_, hl0, hc0, ad', h1⟩
      rotate_left
      · subst h1
        simp [Builtin.append_, hi1, hi2, hso, hn, hN, storeCells]
      subst h1
      have hle : s.len ≤ c' := by rcases hcc with g | ⟨g, _⟩ <;> omega
      simp [Builtin.append_, hi1, hi2, hso, hn, hN, hle, storeCells]
  · rename_i hn0
    have hn0 : n ≠ 0 := Nat.ne_of_beq_eq_false hn0
    split at e
    · rename_i hmost hsz hby
      have hmost := Nat.le_of_ble_eq_true hmost
      have hsz : j.lk.length ≠ 0 := Nat.ne_of_beq_eq_false hsz
      have hby : j.bytes ≠ 0 := Nat.ne_of_beq_eq_false hby
      simp only [AHeap.most] at hmost
      -- the growing way
      have growing : ∀ {s' : Option Addr} {cap' : Nat} {olds olds' : List Value} {hh : AHeap}, sv = .slice s' s.len cap' → HRel B m hh w → hh.next = h.next → LRel m olds olds' → olds.length = s.len * j.lk.length →
          (∀ w1 : World, w1.heap = w.heap → (Builtin.firstCells j.lk.length s.len (.slice s' s.len cap')).run P w1 = .ok olds'.toArray w1) → cap' < s.len + n →
          ∃ v' m' w', Gr h m (hh.new (.cells (olds ++ vs) el (some j.lk.length) false)) m' ∧ HRel B m' (hh.new (.cells (olds ++ vs) el (some j.lk.length) false)) w' ∧ VRel m' (.slice (some ⟨h.next, 0, none⟩) (s.len + n) (s.len + n)) v' ∧ Bel B w w' ∧
            (Builtin.append_ #[t, t2] ty #[sv, x']).run P w = .ok v' w' := by
        intro s' cap' olds olds' hh hsv Hh hnx hOL hOlen hO hlt
        obtain ⟨c, newCap, g1, g2, g3⟩ := grow_run (ty := ty) ht ⟨d2, hd2, hd2n⟩ hj hn hnews hO hlt hmost (by omega)
        have hzs := hj.zero.2
        have hcs : c.size = newCap * j.lk.length := by
          have := congrArg List.length g2
          simp only [Array.length_toList, List.length_append, size_zeroCells, hzs, ← hOL.1, ← hL.1, hOlen, hlen] at this
          rw [this, ← Nat.add_mul, ← Nat.add_mul]
          congr 1
          omega
        obtain ⟨m', k1, k2, k3⟩ := (Hh.drew).grow (vs := olds ++ vs) c el j.lk.length (fun k v hv => by
          obtain ⟨v', p1, p2⟩ := (hOL.append hL).get hv
          refine ⟨v', ?_, p2⟩
          rw [← Array.getElem?_toList, g2, List.getElem?_append_left (List.getElem?_eq_some_iff.1 p1).1]
          exact p1)
        rw [hnx] at k2
        refine ⟨_, m', _, (Gr.keep hnx).trans k1, k3, ?_, ?_, by rw [hsv]; exact g3⟩
        · have hext : (olds ++ vs).length = (s.len + n) * j.lk.length := by rw [List.length_append, hOlen, hlen, Nat.add_mul]
          exact VRel.slice (m := m') (i := h.next) (x := 0) (y := 0) (l := s.len + n) (c := s.len + n) (c' := newCap) k2 (Nat.le_refl _)
            (.inr ⟨g1, j.lk.length, rfl, by simp [hext], by simp [hcs]⟩) (.inl rfl)
        · exact ((Bel.refl B w).drew).alloc H.size _
      split at e
      · -- nil
        rename_i ha
        simp only [Option.some.injEq, Prod.mk.injEq] at e
        obtain ⟨rfl, rfl⟩ := e
        rw [ha] at hs
        obtain ⟨z1, z2, h1⟩ := hs.nilSlice_inv
        have := growing (s' := none) (cap' := 0) (olds := []) (olds' := []) (hh := h) (by rw [z1]; exact h1) H rfl (LRel.nil m) (by simp [z1]) (fun w1 _ => by simp [Builtin.firstCells]) (by omega)
        simpa using this
      · rename_i ad ha
        rw [ha] at hs
        rcases hs.slice_inv with ⟨hsp, hlc, rf, y, cap', hr, h1, hcc, hy⟩ | ⟨hsp, hl0, hc0, ad', h1⟩
        rotate_left
        · -- a slice that has no room at all
          have any : ∀ hh : AHeap, HRel B m hh w → hh.next = h.next → (q, h') = ((⟨some ⟨h.next, 0, none⟩, s.len + n, s.len + n⟩ : SL), hh.new (.cells vs el (some j.lk.length) false)) →
              ∃ v' m' w', Gr h m h' m' ∧ HRel B m' h' w' ∧ VRel m' (.slice q.a q.len q.cap) v' ∧ Bel B w w' ∧ (Builtin.append_ #[t, t2] ty #[sv, x']).run P w = .ok v' w' := by
            intro hh Hh hnx hq
            simp only [Prod.mk.injEq] at hq
            obtain ⟨rfl, rfl⟩ := hq
            have := growing (s' := some ad') (cap' := 0) (olds := []) (olds' := []) (hh := hh) (by rw [hl0]; exact h1) Hh hnx (LRel.nil m) (by simp [hl0]) (fun w1 _ => by rw [hl0]; exact firstCells_zero _ _ _ _ _) (by omega)
            simpa using this
          have htk : ∀ l : List Value, (l.drop ad.off).take (s.len * j.lk.length) ++ vs = vs := fun l => by simp [hl0]
          split at e
          · rename_i hroom
            have := Nat.le_of_ble_eq_true hroom
            omega
          · split at e
            · rename_i l e' opn ro hg
              split at e
              · cases e
              · split at e
                · simp only [Option.some.injEq, htk] at e
                  exact any h H rfl e.symm
                · split at e
                  · simp only [Option.some.injEq, htk] at e
                    exact any h H rfl e.symm
                  · rename_i hend
                    have hend := Nat.eq_of_beq_eq_true hend
                    split at e
                    · have hdr : l.drop ad.off = [] := List.drop_eq_nil_of_le (by rw [hc0] at hend; omega)
                      simp only [Option.some.injEq, hdr, List.nil_append] at e
                      exact any (h.set ad.block .gone) (H.drop ad.block) rfl e.symm
                    · cases e
                  · cases e
            · cases e
        have hcap : s.cap ≤ cap' := by rcases hcc with g | ⟨g, _⟩ <;> omega
        split at e
        · -- there is room
          rename_i hroom
          have hroom := Nat.le_of_ble_eq_true hroom
          obtain ⟨h2, e2, e⟩ := ob_eq e
          simp only [Option.some.injEq, Prod.mk.injEq] at e
          obtain ⟨rfl, rfl⟩ := e
          have hy' : y = rf.o + ad.off := by
            rcases hy with hy | hy
            · exact hy
            · clear hcc
              omega
          subst hy'
          obtain ⟨w', hst, H', hb⟩ := H.st (P := P) hr e2 hL
          refine ⟨_, m, w', Gr.keep (st_next e2), H', .slice hr hroom hcc (.inl rfl), hb, ?_⟩
          rw [h1]
          have hN := hnews w rfl
          have hr2 : s.len + n ≤ cap' := by omega
          simp [Builtin.append_, hi1, hi2, hso, hn, hN, hr2, add_none, Nat.add_assoc] at hst ⊢
          rw [hst]
          rfl
        · rename_i hroom
          have hroom : ¬ s.len + n ≤ s.cap := fun g => by rw [Nat.ble_eq_true_of_le g] at hroom; cases hroom
          split at e
          · rename_i l e' opn ro hg
            have hob := H.obj _ _ hr
            rw [hg] at hob
            obtain ⟨b1, b2, c0, fr, b3, b4, b5, b6⟩ := hob
            split at e
            · cases e
            · rename_i hfit
              have hfit := Nat.le_of_ble_eq_true hfit
              -- the old elements
              have hold : ∀ o : List Value, o = (l.drop ad.off).take (s.len * j.lk.length) → o.length = s.len * j.lk.length ∧ ∃ o' : List Value, LRel m o o' ∧
                  ∀ w1 : World, w1.heap = w.heap → (Builtin.firstCells j.lk.length s.len (.slice (some ⟨rf.b, y, none⟩) s.len cap')).run P w1 = .ok o'.toArray w1 := by
                intro o ho
                have hol : o.length = s.len * j.lk.length := by rw [ho]; simp; omega
                obtain ⟨o', p1, p2⟩ := H.cells (i := ad.block) (o := ad.off) (vs := o) hr (fun k v hk => by
                  rw [ho, List.getElem?_take] at hk
                  split at hk
                  · rw [List.getElem?_drop] at hk; simp [AHeap.cell?, hg, hk]
                  · cases hk)
                refine ⟨hol, o', p1, fun w1 hw => ?_⟩
                simp only [Builtin.firstCells]
                rw [show s.len * j.lk.length = o'.length by rw [← p1.1, hol]]
                refine Go.run_loadCells_list (P := P) w1 _ o' fun k v hk => ?_
                have hpos : 0 < s.len * j.lk.length := by rw [← hol, p1.1]; exact Nat.lt_of_le_of_lt (Nat.zero_le k) (List.getElem?_eq_some_iff.1 hk).1
                have hl0 : 0 < s.len := Nat.pos_of_mul_pos_right hpos
                have hy' : y = rf.o + ad.off := by
                  rcases hy with hy | hy
                  · exact hy
                  · clear hcc
                    omega
                have := p2 k v hk
                rw [hy', World.cell?, hw]
                exact this
              have exactCase : cap' = s.cap → (q, h') = ((⟨some ⟨h.next, 0, none⟩, s.len + n, s.len + n⟩ : SL), h.new (.cells ((l.drop ad.off).take (s.len * j.lk.length) ++ vs) el (some j.lk.length) false)) →
                  ∃ v' m' w', Gr h m h' m' ∧ HRel B m' h' w' ∧ VRel m' (.slice q.a q.len q.cap) v' ∧ Bel B w w' ∧ (Builtin.append_ #[t, t2] ty #[sv, x']).run P w = .ok v' w' := by
                intro hce hq
                simp only [Prod.mk.injEq] at hq
                obtain ⟨rfl, rfl⟩ := hq
                obtain ⟨g1, o', g2, g3⟩ := hold _ rfl
                exact growing h1 H rfl g2 g1 g3 (by omega)
              split at e
              · -- its capacity is known
                rename_i _
                simp only [Option.some.injEq] at e
                refine exactCase ?_ e.symm
                rcases hcc with g | ⟨_, s0, g, _⟩
                · exact g.symm
                · rw [b2] at g; cases g
              · rename_i z
                split at e
                · rename_i hz hend
                  have hz := Nat.eq_of_beq_eq_true hz
                  have hend := Nat.ne_of_beq_eq_false hend
                  simp only [Option.some.injEq] at e
                  refine exactCase ?_ e.symm
                  rcases hcc with g | ⟨_, s0, g, g2, _⟩
                  · exact g.symm
                  · rw [b2] at g
                    simp only [Option.some.injEq] at g
                    subst g hz
                    rw [b1] at g2
                    exact absurd g2 hend
                · rename_i hz hend
                  have hz := Nat.eq_of_beq_eq_true hz
                  have hend := Nat.eq_of_beq_eq_true hend
                  split at e
                  · rename_i hfull heq hone0
                    have hfull := Nat.eq_of_beq_eq_true hfull
                    have heq := Nat.eq_of_beq_eq_true heq
                    simp only [Option.some.injEq, Prod.mk.injEq] at e
                    obtain ⟨rfl, rfl⟩ := e
                    have hdrop : l.drop ad.off = (l.drop ad.off).take (s.len * j.lk.length) := by
                      rw [List.take_of_length_le]
                      simp
                      rw [hfull]
                      omega
                    have hro : ad.block = ad.block := rfl
                    obtain ⟨hB, hfz⟩ := b6 rfl
                    have hnext : (h.set ad.block .gone).next = h.next := rfl
                    obtain ⟨gl, o', g2, g3⟩ := hold (l.drop ad.off) hdrop
                    by_cases hin : s.len + n ≤ cap'
                    · -- in place
                      have hy' : y = rf.o + ad.off := by
                        rcases hy with hy | hy
                        · exact hy
                        · clear hcc
                          omega
                      subst hy'
                      have hsz2 : rf.o + ad.off + cap' * j.lk.length ≤ c0.size := by
                        rcases hcc with g | ⟨_, s0, g, _, g5⟩
                        · omega
                        · rw [b2] at g
                          simp only [Option.some.injEq] at g
                          subst g hz
                          rw [b4]
                          exact g5
                      have hL' : vs'.length = n * j.lk.length := by rw [← hL.1, hlen]
                      have hin2 : s.len * j.lk.length + n * j.lk.length ≤ cap' * j.lk.length := by rw [← Nat.add_mul]; exact Nat.mul_le_mul_right _ hin
                      have hone : ∀ v ∈ vs', v.oneCell' = true := all_one hL hone0
                      obtain ⟨w', c', r1, r2, r3, r4⟩ := run_storeCells P rf.b (rf.o + ad.off + s.len * j.lk.length) e' fr vs' 0 w c0 b3 (by omega) hfz hone
                      have hfree : ∀ i t, m i = some t → t.b = rf.b → (h.set ad.block .gone).get i = .gone := by
                        intro i t hi hb
                        rw [AHeap.get_set]
                        by_cases hia : i = ad.block
                        · rw [if_pos hia]
                        · rw [if_neg hia]
                          cases hgi : h.get i with
                          | gone => rfl
                          | cells _ _ _ _ => exact absurd (H.one i ad.block t rf hi hr hb (by rw [hb]; exact hB) (by rw [hgi]; simp) (by rw [hg]; simp)) hia
                          | map _ => exact absurd (H.one i ad.block t rf hi hr hb (by rw [hb]; exact hB) (by rw [hgi]; simp) (by rw [hg]; simp)) hia
                          | iter _ _ => exact absurd (H.one i ad.block t rf hi hr hb (by rw [hb]; exact hB) (by rw [hgi]; simp) (by rw [hg]; simp)) hia
                      obtain ⟨k1, k2⟩ := (H.drop ad.block).alias (w' := w') ⟨rf.b, rf.o + ad.off, (l.drop ad.off ++ vs).length, rf.csz, some j.lk.length⟩ (.cells (l.drop ad.off ++ vs) el (some j.lk.length) false) hfree hB
                        (H.dom _ _ hr).2 r2.size r2.other (by
                          refine ⟨rfl, rfl, c', fr, by rw [heq]; exact r2.here, by rw [r3]; exact b4, fun k v hk => ?_, fun _ => ⟨hB, by rw [r3]; exact hfz⟩⟩
                          have hle : m.le (m.put (h.set ad.block .gone).next ⟨rf.b, rf.o + ad.off, (l.drop ad.off ++ vs).length, rf.csz, some j.lk.length⟩) := MP.le_put (H.fresh (Nat.le_refl _))
                          simp only
                          rw [r4, Nat.add_zero]
                          by_cases hk1 : k < (l.drop ad.off).length
                          · rw [List.getElem?_append_left hk1, List.getElem?_drop] at hk
                            rw [if_pos (by rw [gl] at hk1; omega)]
                            obtain ⟨v', s1, s2⟩ := b5 (ad.off + k) v hk
                            exact ⟨v', by rw [show rf.o + ad.off + k = rf.o + (ad.off + k) by omega]; exact s1, s2.mono hle⟩
                          · rw [List.getElem?_append_right (by omega)] at hk
                            obtain ⟨v', s1, s2⟩ := hL.get hk
                            have s3 := (List.getElem?_eq_some_iff.1 s1).1
                            rw [gl] at hk1 s1 s3
                            rw [if_neg (by omega), if_pos (by omega)]
                            refine ⟨v', ?_, s2.mono hle⟩
                            rw [← s1]
                            congr 1
                            omega)
                      refine ⟨_, _, w', (Gr.keep (h := h) (h' := h.set ad.block .gone) rfl).trans k2, k1, .slice (y := rf.o + ad.off) (c' := cap') (MP.put_same _ _ _) (Nat.le_refl _) (.inr ⟨hin, j.lk.length, rfl, ?_, ?_⟩) (.inl (by simp)), ⟨r2.os, r2.tape, r2.output, by rw [r2.size]; exact Nat.le_refl _, fun i hi => r2.other i (fun e => hB (by rw [← e]; exact hi))⟩, ?_⟩
                      · simp only [List.length_append, gl, hlen, Nat.zero_add, Nat.add_mul]
                      · simp only [Nat.add_zero]; rw [← b4]; exact hsz2
                      · rw [h1]
                        have hN := hnews w rfl
                        simp [Builtin.append_, hi1, hi2, hso, hn, hN, hin, add_none, Nat.add_assoc] at r1 ⊢
                        rw [r1]
                        rfl
                    · -- it grows
                      have := growing h1 (H.drop ad.block) hnext g2 gl g3 (by omega)
                      exact this
                  · cases e
                · cases e
          · cases e
    · cases e

end
end Go.Amb
