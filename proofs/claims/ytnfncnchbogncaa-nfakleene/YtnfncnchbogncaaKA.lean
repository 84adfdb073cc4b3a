/- Part of the proof by the abstract machine: no claim of its own. -/
import Derived.Test.YtnfncnchbogncaaRB
import Derived.Test.YtnfncnchbogncaaRA
set_option linter.unusedSimpArgs false
set_option linter.unusedVariables false
set_option linter.unnecessarySimpa false
set_option linter.unusedSectionVars false
/- Automata laid: what reading them needs. -/
set_option linter.unusedVariables false
set_option linter.unusedSimpArgs false
namespace Go.Amb
open Go.Proofs
theorem layP_mk (op : Int) (cs : List Int) (ks : List Pat) (s : List NS) : layP (.mk op cs ks) s = if op = 2 then headP ks s
    else if op = 3 then (s.length, (kidsP s.length ks [] (newS s)).2.length, outsP (kidsP s.length ks [] (newS s)).2.length (kidsP s.length ks [] (newS s)).1 (newS (kidsP s.length ks [] (newS s)).2))
    else if op = 4 ∨ op = 5 ∨ op = 6 then (s.length, (firstP ks (newS s)).2.2.length, tieP op s.length (firstP ks (newS s)).1 (firstP ks (newS s)).2.1 (firstP ks (newS s)).2.2.length (newS (firstP ks (newS s)).2.2))
    else (s.length, s.length + 1, if op = 0 then frS (newS (newS s)) s.length (s.length + 1) else edS (newS (newS s)) s.length cs (s.length + 1)) := by rw [layP]
theorem IntsAt.eqV {N : Nat} {h : AHeap} {v : Value} {l : List Int} (H : IntsAt N h v l) : eqV v v = true := by
  rcases H with ⟨_, rfl⟩ | ⟨i, c, e, rfl, _⟩
  · rfl
  · exact eqV_S0 _ _ _ _


def autP (p : Pat) : Nat × Nat × List NS := if (checkF 64 p 0).1 = 0 then layP p [] else (0, 0, [])
/-- An automaton, its lists its own. -/
def AutAt (e : Nat) (h : AHeap) (x : Value) (r : Nat × Nat × List NS) (fs : List Nat) : Prop :=
  ∃ v, x = .agg [v, I r.1, I r.2.1].toArray ∧ StsRep h v r.2.2 fs ∧ fs.Nodup ∧ ∀ j ∈ fs, e ≤ j ∧ j < h.next
theorem StsRep.slc {h : AHeap} {v : Value} {s : List NS} {fs : List Nat} (H : StsRep h v s fs) : ∃ a c, v = .slice a s.length c := by
  rcases H with ⟨rfl, rfl, _⟩ | ⟨S, cs, fc, _, rfl, _⟩ <;> exact ⟨_, _, rfl⟩
theorem st3 {h : AHeap} {b : Nat} {x0 y0 z0 : Value} {T : TypeId} (hg : h.get b = .cells [x0, y0, z0] T none false) {x : Value} (hx : ∃ a l c, x = .slice a l c) (y z : Int) (f : AHeap → Option Ans) :
    cStore 3 (P0 b 0) (.agg [x, I y, I z].toArray) h f = f (h.set b (.cells [x, I y, I z] T none false)) := by
  obtain ⟨a, l, c, rfl⟩ := hx
  have hst : h.st b 0 [.slice a l c, I y, I z] = some (h.set b (.cells [.slice a l c, I y, I z] T none false)) := by
    rw [st_of hg (by simp) rfl]
    rfl
  rw [cStore_ptr _ _ _ _ _ (by simp [Value.cells])]
  simp only [Value.cells, List.toList_toArray, hst, ob_some]
theorem ld3 {R : Type} {h : AHeap} {b : Nat} {T : TypeId} {x : Value} {y z : Int} {rest : List Value} (hg : h.get b = .cells (x :: I y :: I z :: rest) T none false) (hx : ∃ a l c, x = .slice a l c) (f : List Value → Option R) :
    h.ldL b [.slc, .int .i64, .int .i64] 0 f = f [x, I y, I z] := by
  obtain ⟨a, l, c, rfl⟩ := hx
  simp only [ldL_cons, ldL_nil, ld1_eq, cell?_of hg, List.getElem?_cons_zero, List.getElem?_cons_succ, ob_some, asLK_slc, asLK_int]
theorem res67a (u : Value) (h : AHeap) (b : Nat) (f : List Value → Option Ans) : (ob (EK.ti.get 67) fun i => ob (ptr? (P0 b 0)) fun p => ob p fun p => h.ld i p.block p.off fun v => f [v, u]) = h.ldL b [.slc, .int .i64, .int .i64] 0 fun l => f [.agg l.toArray, u] := by kernel_rfl
theorem res67b (σ : St) (h : AHeap) (f : List Value → Option Ans) : evResS EK σ h [.cell 2 67, .tmp 3] f = ob (EK.ti.get 67) fun i => ob (ptr? (σ 2)) fun p => ob p fun p => h.ld i p.block p.off fun v => f [v, σ 3] := (rfl)
theorem res67 (σ : St) (h : AHeap) (b : Nat) (f : List Value → Option Ans) (h2 : σ 2 = P0 b 0) : evResS EK σ h [.cell 2 67, .tmp 3] f = h.ldL b [.slc, .int .i64, .int .i64] 0 fun l => f [.agg l.toArray, σ 3] := by
  rw [res67b, h2, res67a]
theorem Ctx.perm {h : AHeap} {N Q : Nat} {T : TypeId} {rest : List Value} {pins pins' : List (Nat × AObj)} {s : List NS} {fp : List Nat} (H : Ctx h N Q T rest pins s fp) (k : ∀ x ∈ pins', x ∈ pins) : Ctx h N Q T rest pins' s fp := ⟨H.rep, H.low, H.hn, fun x hx => H.pin x (k x hx)⟩
theorem fbox {h : AHeap} {N Q : Nat} {T : TypeId} {rest : List Value} {pins : List (Nat × AObj)} {s : List NS} {fp : List Nat} (H : Ctx h N Q T rest pins s fp) (t : TypeId) (g : Go.Fn) (x y : Array Value) :
    ∃ h', Ctx h' N Q T rest ((h.next, .cells [.func g x y] t none false) :: pins) s fp ∧ Fr h h' fp fp ∧ ∀ K : AHeap → Option Ans, cStore 1 (P0 h.next 0) (.func g x y) (h.new (.cells [.nilFunc] t none false)) K = K h' := by
  have hfresh : ∀ q ∈ pins, q.1 ≠ h.next := fun q hq => by have := (H.pin q hq).2.1; omega
  refine ⟨_, (H.new (.cells [.nilFunc] t none false)).turn (o' := .cells [.func g x y] t none false) hfresh, ⟨by simp, fun i hi _ => ?_, fun i hi => .inl hi⟩, fun K => ?_⟩
  · rw [AHeap.get_set_ne _ _ (by omega), get_new_lt _ hi]
  · have hst : (h.new (.cells [.nilFunc] t none false)).st h.next 0 [.func g x y] = some ((h.new (.cells [.nilFunc] t none false)).set h.next (.cells [.func g x y] t none false)) := by
      rw [st_of (get_new_self _ _) (by simp) rfl]
      rfl
    rw [cStore_ptr _ _ _ _ _ (by simp [Value.cells])]
    simp only [Value.cells, List.toList_toArray, hst, ob_some]



theorem kind_res (σ : St) (h : AHeap) (b : Nat) {T : TypeId} {x : Value} {y z : Int} (h2 : σ 2 = P0 b 0) (hg : h.get b = .cells [x, I y, I z] T none false) (hx : ∃ a l c, x = .slice a l c) :
    finS EK [.cell 2 67, .tmp 3] .ret σ h = some (.ret (.tuple #[.agg [x, I y, I z].toArray, σ 3]) h) := by
  rw [finS_ret, res67 σ h b _ h2, ld3 hg hx]
  rfl

theorem st1I {h : AHeap} (b o : Nat) (x : Int) (f : AHeap → Option Ans) : cStore 1 (P0 b o) (I x) h f = ob (h.st b o [I x]) f := by
  rw [cStore_ptr 1 b o (I x) f rfl]
  rfl

theorem ev28 (X : Call) (n : Nat) {N : Nat} {h : AHeap} {p : Pat} {a b c : Value} (HP : PatAt N h p a b c) (hN : N ≤ h.next) (hn : p.wt + 2 ≤ n) :
    ∃ h' x fs, evF EK X (n + 1) 28 [.agg [a, b, c].toArray] h = some (.ret (.tuple #[x, I (checkF 64 p 0).1]) h') ∧ AutAt h.next h' x (autP p) fs ∧ h.next ≤ h'.next ∧ ∀ i, i < h.next → h'.get i = h.get i := by
  obtain ⟨n, rfl⟩ : ∃ q, n = q + 1 := ⟨n - 1, by omega⟩
  obtain ⟨ha, hb, _⟩ := HP.parts
  obtain ⟨ka, kc, hce, hk⟩ := HP.kidsSlc
  obtain ⟨ba, bc, hbe, hbl⟩ := hb.slc
  have g1 : (h.new (.cells [a, b, c] 64 none false)).get h.next = .cells [a, b, c] 64 none false := get_new_self _ _
  have g1' : ((h.new (.cells [a, b, c] 64 none false)).new (.cells [.slice none 0 0, I 0, I 0] 67 none false)).get h.next = .cells [a, b, c] 64 none false := by rw [get_new_lt _ (by simp)]; exact g1
  have g2 : ((h.new (.cells [a, b, c] 64 none false)).new (.cells [.slice none 0 0, I 0, I 0] 67 none false)).get (h.next + 1) = .cells [.slice none 0 0, I 0, I 0] 67 none false := get_new_self (h.new (.cells [a, b, c] 64 none false)) _
  have hn1 : (h.new (.cells [a, b, c] 64 none false)).next = h.next + 1 := rfl
  have k2 : ∀ i, i < h.next → ((h.new (.cells [a, b, c] 64 none false)).new (.cells [.slice none 0 0, I 0, I 0] 67 none false)).get i = h.get i := fun i hi => by rw [get_new_lt _ (by rw [hn1]; omega), get_new_lt _ hi]
  have n2 : ((h.new (.cells [a, b, c] 64 none false)).new (.cells [.slice none 0 0, I 0, I 0] 67 none false)).next = h.next + 2 := rfl
  rw [evF_B _ _ _ _ _ _ (by kernel_rfl), g28_eq, g28]
  simp only [st0_zero, cNew_eq, Value.cells, List.toList_toArray, hn1]
  generalize (h.new (.cells [a, b, c] 64 none false)).new (.cells [.slice none 0 0, I 0, I 0] 67 none false) = h2 at *
  have HP2 : PatAt N h2 p a b c := HP.frame (fun i hi => k2 i (by omega)) _
  have hld : ∀ (h' : AHeap) (R : Type) (f : List Value → Option R), h'.get h.next = .cells [a, b, c] 64 none false → h'.ldL h.next [.int .i64, .slc, .slc] 0 f = f [a, b, c] := fun h' R f hg =>
    load_kid ha ⟨_, _, _, hbe⟩ ⟨_, _, _, hce⟩ (by rw [cell?_of hg]; rfl) (by rw [cell?_of hg]; rfl) (by rw [cell?_of hg]; rfl)
  obtain ⟨h3, e3, n3, k3⟩ := ev55 X n HP2 (by omega) 64 (by omega)
  have g13 : h3.get h.next = .cells [a, b, c] 64 none false := by rw [k3 _ (by omega)]; exact g1'
  have g23 : h3.get (h.next + 1) = .cells [.slice none 0 0, I 0, I 0] 67 none false := by rw [k3 _ (by omega)]; exact g2
  simp only [cLoadA_ptr, hld _ _ _ g1']
  rw [cCall_ret e3]
  simp only [asRetL_one, asTIL_one, asLK_int, cBin_neq, cIf_eq]
  unfold autP
  by_cases he : (checkF 64 p 0).1 = 0
  · simp only [he, decide_true, Bool.not_true, Bool.false_eq_true, if_false, if_true]
    obtain ⟨hg, _, hnod⟩ := check_good p he
    -- the laying begins
    have HP3 : PatAt N h3 p a b c := HP2.frame (fun i hi => k3 i (by omega)) _
    have H4 : Ctx (h3.new (.cells [.slice none 0 0, I 0, I 0] 67 none false)) N h3.next 67 [I 0, I 0] [(h.next + 1, .cells [.slice none 0 0, I 0, I 0] 67 none false), (h.next, .cells [a, b, c] 64 none false)] [] [h3.next] := by
      refine ⟨⟨⟨nilS, [], get_new_self _ _, .inl ⟨rfl, rfl, rfl⟩, rfl⟩, by simp, fun i hi => by simp at hi; subst hi; simp⟩, fun i hi => by simp at hi; subst hi; omega, by simp; omega, fun x hx => ?_⟩
      rcases List.mem_cons.1 hx with rfl | hx
      · exact ⟨by rw [get_new_lt _ (by omega)]; exact g23, by simp; omega, by simp; omega⟩
      · simp at hx
        subst hx
        exact ⟨by rw [get_new_lt _ (by omega)]; exact g13, by simp; omega, by simp; omega⟩
    have F4 := Fr.new h3 (.cells [.slice none 0 0, I 0, I 0] 67 none false) [h3.next]
    generalize hh4 : h3.new (.cells [.slice none 0 0, I 0, I 0] 67 none false) = h4 at *
    generalize hQ : h3.next = Q at *
    obtain ⟨h5, H5, F5, e5⟩ := fbox H4 58 (.func 56) #[] #[P0 Q 0]
    obtain ⟨h6, H6, F6, e6⟩ := fbox H5 103 (.func 57) #[] #[P0 Q 0]
    have H7 := H6.new (.cells [.nilFunc] 104 none false)
    have F7 := Fr.new h6 (.cells [.nilFunc] 104 none false) [Q]
    generalize hh7 : h6.new (.cells [.nilFunc] 104 none false) = h7 at *
    obtain ⟨h8, H8, F8, e8⟩ := fbox H7 104 (.func 58) #[] #[P0 h4.next 0, P0 h6.next 0, P0 h5.next 0]
    obtain ⟨h9, H9, F9, e9⟩ := fbox H8 104 (.func 59) #[] #[P0 h4.next 0, P0 h6.next 0, P0 h5.next 0]
    obtain ⟨h10, H10, F10, e10⟩ := fbox H9 104 (.func 60) #[] #[P0 h6.next 0, P0 h5.next 0]
    have F310 := F4.trans (F5.trans (F6.trans (F7.trans (F8.trans (F9.trans F10)))))
    have q4 : h3.next ≤ h4.next := F4.next
    have q5 := (H5.pin _ List.mem_cons_self).2.1
    have q6 := (H6.pin _ List.mem_cons_self).2.1
    have q7 := (H7.pin _ List.mem_cons_self).2.1
    have q8 := (H8.pin _ List.mem_cons_self).2.1
    have q9 := (H9.pin _ List.mem_cons_self).2.1
    have q10 := (H10.pin _ List.mem_cons_self).2.1
    have hQ4 : Q < h4.next := H4.rep.lt Q (by simp)
    simp only at q5 q6 q7 q8 q9 q10
    have g10 := (H10.pin (h6.next, .cells [.nilFunc] 104 none false) (by simp)).1
    have H10' : Ctx h10 N Q 67 [I 0, I 0] ((h6.next, .cells [.nilFunc] 104 none false) :: [(h9.next, .cells [F60 ⟨h4.next, h5.next, h6.next, h7.next, h8.next, h9.next⟩] 104 none false), (h8.next, .cells [F59 ⟨h4.next, h5.next, h6.next, h7.next, h8.next, h9.next⟩] 104 none false), (h7.next, .cells [F58 ⟨h4.next, h5.next, h6.next, h7.next, h8.next, h9.next⟩] 104 none false), (h5.next, .cells [F57 Q] 103 none false), (h4.next, .cells [F56 Q] 58 none false), (h.next + 1, .cells [.slice none 0 0, I 0, I 0] 67 none false), (h.next, .cells [a, b, c] 64 none false)]) [] [Q] := H10.perm fun x hx => by
      simp only [List.mem_cons, List.not_mem_nil, or_false] at hx ⊢
      rcases hx with h | h | h | h | h | h | h | h <;> simp [h]
    have H11 := H10'.turn (o' := .cells [F61 ⟨h4.next, h5.next, h6.next, h7.next, h8.next, h9.next⟩ Q] 104 none false) (fun x hx => by
      simp only [List.mem_cons, List.not_mem_nil, or_false] at hx
      rcases hx with rfl | rfl | rfl | rfl | rfl | rfl | rfl <;> simp only [ne_eq] <;> omega)
    have hst : h10.st h6.next 0 [F61 ⟨h4.next, h5.next, h6.next, h7.next, h8.next, h9.next⟩ Q] = some (h10.set h6.next (.cells [F61 ⟨h4.next, h5.next, h6.next, h7.next, h8.next, h9.next⟩ Q] 104 none false)) := by
      rw [st_of g10 (by simp) rfl]
      rfl
    have k11 : ∀ i, i ≠ h6.next → (h10.set h6.next (.cells [F61 ⟨h4.next, h5.next, h6.next, h7.next, h8.next, h9.next⟩ Q] 104 none false)).get i = h10.get i := fun i hi => AHeap.get_set_ne _ _ hi
    have n11 : (h10.set h6.next (.cells [F61 ⟨h4.next, h5.next, h6.next, h7.next, h8.next, h9.next⟩ Q] 104 none false)).next = h10.next := rfl
    have e11 : ∀ K : AHeap → Option Ans, cStore 1 (P0 h6.next 0) (F61 ⟨h4.next, h5.next, h6.next, h7.next, h8.next, h9.next⟩ Q) h10 K = K (h10.set h6.next (.cells [F61 ⟨h4.next, h5.next, h6.next, h7.next, h8.next, h9.next⟩ Q] 104 none false)) := fun K => by
      rw [cStore_ptr _ _ _ _ _ (by simp [Value.cells])]
      simp only [Value.cells, List.toList_toArray, hst, ob_some]
    generalize h10.set h6.next (.cells [F61 ⟨h4.next, h5.next, h6.next, h7.next, h8.next, h9.next⟩ Q] 104 none false) = h11 at *
    have HP11 : PatAt N h11 p a b c := HP3.frame (fun i hi => by rw [k11 i (by omega)]; exact F310.keep i (by omega) (by simp; omega)) _
    obtain ⟨h12, fp', C12, F12, e12⟩ := (spec61 X ⟨h4.next, h5.next, h6.next, h7.next, h8.next, h9.next⟩ p.wt p (Nat.le_refl _)).call (n + 1) HP11 hg (by omega) H11 (fun x hx => by
      simp only [clos, List.mem_cons, List.not_mem_nil, or_false] at hx ⊢
      rcases hx with h | h | h | h | h | h <;> simp [h]) (by simp [tot, totF]; omega)
    generalize hL : layP p [] = L at *
    obtain ⟨v, fs, g12, hS, hfp⟩ := C12.rep.ex
    obtain ⟨va, vc, hv⟩ := hS.slc
    have hnd := C12.rep.nd
    rw [hfp, List.nodup_cons] at hnd
    have g12b := C12.pin (h.next + 1, .cells [.slice none 0 0, I 0, I 0] 67 none false) (by simp)
    have g11b := H11.cell (b := h6.next) List.mem_cons_self 0
    have g11a := (H11.pin (h.next, .cells [a, b, c] 64 none false) (by simp)).1
    obtain ⟨g12b, l12b, m12b⟩ := g12b
    simp only at g12b l12b m12b
    have s13 : h12.st Q 1 [I L.1] = some (h12.set Q (.cells [v, I L.1, I 0] 67 none false)) := by
      rw [st_of g12 (by simp) rfl]; rfl
    have s14 : (h12.set Q (.cells [v, I L.1, I 0] 67 none false)).st Q 2 [I L.2.1] = some ((h12.set Q (.cells [v, I L.1, I 0] 67 none false)).set Q (.cells [v, I L.1, I L.2.1] 67 none false)) := by
      rw [st_of (AHeap.get_set_same _ _ _) (by simp) rfl]; rfl
    have g14 := AHeap.get_set_same (h12.set Q (.cells [v, I L.1, I 0] 67 none false)) Q (.cells [v, I L.1, I L.2.1] 67 none false)
    have k14 : ∀ i, i ≠ Q → ((h12.set Q (.cells [v, I L.1, I 0] 67 none false)).set Q (.cells [v, I L.1, I L.2.1] 67 none false)).get i = h12.get i := fun i hi => by rw [AHeap.get_set_ne _ _ hi, AHeap.get_set_ne _ _ hi]
    have n14 : ((h12.set Q (.cells [v, I L.1, I 0] 67 none false)).set Q (.cells [v, I L.1, I L.2.1] 67 none false)).next = h12.next := rfl
    simp only [e5, e6, hh7, e8, e9, e10, e11, cLoad1_ptr, ld1_eq, g11b, List.getElem?_cons_zero, ob_some, asLK_any, hld _ _ _ g11a, e12, cExtract_eq, List.toList_toArray, List.getElem?_cons_succ, cFieldAddr_ptr, Nat.zero_add]
    rw [st1I, s13, ob_some, st1I, s14, ob_some]
    generalize (h12.set Q (.cells [v, I L.1, I 0] 67 none false)).set Q (.cells [v, I L.1, I L.2.1] 67 none false) = h14 at *
    have hvs : ∃ a l c, v = .slice a l c := ⟨_, _, _, hv⟩
    simp only [ld3 g14 hvs]
    rw [st3 (h := h14) (by rw [k14 _ (by omega)]; exact g12b) hvs]
    rw [kind_res _ _ (h.next + 1) (T := 67) (by simp [updL_cons]) (AHeap.get_set_same _ _ _) hvs]
    have n12 := F12.next
    refine ⟨_, _, fs, by simp [updL_cons]; rfl, ⟨v, rfl, hS.frame fun i hi => ?_, hnd.2, fun j hj => ?_⟩, by simp; omega, fun i hi => ?_⟩
    · have hiQ : i ≠ Q := fun e => hnd.1 (by rw [← e]; exact hi)
      have hib : i ≠ h.next + 1 := fun e => m12b (by rw [hfp, ← e]; exact List.mem_cons_of_mem _ hi)
      rw [AHeap.get_set_ne _ _ hib, k14 i hiQ]
    · have hjf : j ∈ fp' := by rw [hfp]; exact List.mem_cons_of_mem _ hj
      have := C12.rep.lt j hjf
      rcases F12.sub j hjf with q | q
      · simp at q
        exact absurd hj (by rw [q]; exact hnd.1)
      · simp; omega
    · rw [AHeap.get_set_ne _ _ (by omega), k14 i (by omega), F12.keep i (by omega) (by simp; omega), k11 i (by omega), F310.keep i (by omega) (by simp; omega), k3 i (by omega), k2 i hi]
  · simp only [he, decide_false, Bool.not_false, if_true, if_false]
    have hz : ∃ a l c, nilS = Value.slice a l c := ⟨_, _, _, rfl⟩
    simp only [cBuild_eq, fillP_nil, ob_some]
    rw [st3 g23 hz]
    rw [kind_res _ _ (h.next + 1) (T := 67) (x := nilS) (y := 0) (z := 0) (by simp [updL_cons]) (AHeap.get_set_same _ _ _) hz]
    refine ⟨_, _, [], by simp [updL_cons]; rfl, ⟨nilS, rfl, .inl ⟨rfl, rfl, rfl⟩, List.Pairwise.nil, fun j hj => by cases hj⟩, by simp; omega, fun i hi => ?_⟩
    rw [AHeap.get_set_ne _ _ (by omega), k3 i (by omega), k2 i hi]

theorem CellsRep.at {h : AHeap} : ∀ {sts : List NS} {cs : List Value} {fp : List Nat} {i : Nat} {st : NS}, CellsRep h cs sts fp → sts[i]? = some st → ∃ ve vf fe ff, cs[i * 2]? = some ve ∧ cs[i * 2 + 1]? = some vf ∧ EdgesRep h ve st.edges fe ∧ FreeRep h vf st.free ff ∧ (∀ j ∈ fe, j ∈ fp) ∧ (∀ j ∈ ff, j ∈ fp) := by
  intro sts
  induction sts with
  | nil => intro cs fp i st H e; simp at e
  | cons s0 sts ih =>
    intro cs fp i st H e
    match cs, H with
    | ve :: vf :: cs, ⟨fe, ff, fr, h1, h2, h3, h4⟩ =>
      subst h4
      cases i with
      | zero =>
        simp at e
        subst e
        exact ⟨ve, vf, fe, ff, rfl, rfl, h1, h2, fun j hj => by simp [hj], fun j hj => by simp [hj]⟩
      | succ i =>
        simp at e
        obtain ⟨ve', vf', fe', ff', a, b, c, d, e1, e2⟩ := ih h3 e
        refine ⟨ve', vf', fe', ff', ?_, ?_, c, d, fun j hj => by simp [e1 j hj], fun j hj => by simp [e2 j hj]⟩
        · rw [show (i + 1) * 2 = i * 2 + 1 + 1 by omega, List.getElem?_cons_succ, List.getElem?_cons_succ]; exact a
        · rw [show (i + 1) * 2 + 1 = i * 2 + 1 + 1 + 1 by omega, List.getElem?_cons_succ, List.getElem?_cons_succ]; exact b
theorem EdgesRep.slc {h : AHeap} {v : Value} {es : List (List Int × Int)} {fp : List Nat} (H : EdgesRep h v es fp) : (∃ a c, v = .slice a es.length c) ∧ eqV v v = true := by
  rcases H with ⟨rfl, rfl, _⟩ | ⟨cls, to, G, vc, fc, rfl, rfl, _⟩
  · exact ⟨⟨_, _, rfl⟩, rfl⟩
  · exact ⟨⟨_, _, rfl⟩, eqV_S0 _ _ _ _⟩
theorem FreeRep.slc {h : AHeap} {v : Value} {l : List Int} {fp : List Nat} (H : FreeRep h v l fp) : (∃ a c, v = .slice a l.length c) ∧ eqV v v = true := by
  rcases H with ⟨rfl, rfl, _⟩ | ⟨F, _, rfl, _⟩
  · exact ⟨⟨_, _, rfl⟩, rfl⟩
  · exact ⟨⟨_, _, rfl⟩, eqV_S0 _ _ _ _⟩
theorem eqV_two {x y : Value} (hx : ∃ a l c, x = .slice a l c) (hy : ∃ a l c, y = .slice a l c) (h1 : eqV x x = true) (h2 : eqV y y = true) : eqV (.agg [x, y].toArray) (.agg [x, y].toArray) = true := by
  obtain ⟨_, _, _, rfl⟩ := hx
  obtain ⟨_, _, _, rfl⟩ := hy
  simp [eqV, eqL1, eqV1] at h1 h2 ⊢
  exact ⟨h1, h2⟩



def EdOk (s : List NS) : Prop := ∀ st ∈ s, ∀ ed ∈ st.edges, ed.1.length ≤ 64
theorem EdOk.new {s : List NS} (H : EdOk s) : EdOk (newS s) := by
  intro st hst ed hed
  unfold newS at hst
  rcases List.mem_append.1 hst with h | h
  · exact H st h ed hed
  · simp at h; subst h; simp at hed
theorem EdOk.setFree : ∀ {s : List NS} (a : Nat) (l : List Int), EdOk s → EdOk (setFree s a l) := by
  intro s
  induction s with
  | nil => intro a l H; exact H
  | cons x s ih =>
    intro a l H
    have Hs : EdOk s := fun st hst => H st (List.mem_cons_of_mem _ hst)
    cases a with
    | zero =>
      intro st hst ed hed
      rcases List.mem_cons.1 hst with rfl | h
      · exact H x List.mem_cons_self ed hed
      · exact Hs st h ed hed
    | succ a =>
      intro st hst ed hed
      rcases List.mem_cons.1 hst with rfl | h
      · exact H st List.mem_cons_self ed hed
      · exact ih a l Hs st h ed hed
theorem EdOk.setEdges : ∀ {s : List NS} (a : Nat) (cs : List Int) (t : Int), cs.length ≤ 64 → EdOk s → EdOk (setEdges s a [(cs, t)]) := by
  intro s
  induction s with
  | nil => intro a cs t h H; exact H
  | cons x s ih =>
    intro a cs t hc H
    have Hs : EdOk s := fun st hst => H st (List.mem_cons_of_mem _ hst)
    cases a with
    | zero =>
      intro st hst ed hed
      rcases List.mem_cons.1 hst with rfl | h
      · simp at hed; subst hed; exact hc
      · exact Hs st h ed hed
    | succ a =>
      intro st hst ed hed
      rcases List.mem_cons.1 hst with rfl | h
      · exact H st List.mem_cons_self ed hed
      · exact ih a cs t hc Hs st h ed hed
theorem EdOk.fr {s : List NS} (a t : Nat) (H : EdOk s) : EdOk (frS s a t) := by
  unfold frS
  split
  · exact H.setFree _ _
  · exact H
theorem EdOk.outs (b : Nat) : ∀ (l : List Nat) {s : List NS}, EdOk s → EdOk (outsP b l s) := by
  intro l
  induction l with
  | nil => intro s H; exact H
  | cons o l ih => intro s H; exact ih (H.fr o b)
theorem EdOk.tie (op : Int) (a i o b : Nat) {s : List NS} (H : EdOk s) : EdOk (tieP op a i o b s) := by
  unfold tieP tie3 tie2
  split <;> split <;> (repeat apply EdOk.fr) <;> exact H
mutual
theorem layP_ed : ∀ (p : Pat) (s : List NS), GoodP p → EdOk s → EdOk (layP p s).2.2
  | .mk op cs ks, s, h, H => by
    have hg := h.eq.2.2
    have hr := h.eq.2.1
    simp only [Pat.kids, Pat.cls] at hg hr
    rw [layP_mk]
    by_cases h2 : op = 2
    · rw [if_pos h2]
      match ks, hg with
      | [], _ => exact H
      | k :: r, hg =>
        unfold GoodL at hg
        simp only [headP]
        exact chainP_ed r _ _ _ hg.2 (layP_ed k s hg.1 H)
    · rw [if_neg h2]
      by_cases h3 : op = 3
      · rw [if_pos h3]
        exact (kidsP_ed _ ks _ _ hg H.new).new.outs _ _
      · rw [if_neg h3]
        by_cases h4 : op = 4 ∨ op = 5 ∨ op = 6
        · rw [if_pos h4]
          match ks, hg with
          | [], _ => exact (EdOk.new H.new).tie _ _ _ _ _
          | k :: r, hg =>
            unfold GoodL at hg
            simp only [firstP]
            exact (layP_ed k _ hg.1 H.new).new.tie _ _ _ _ _
        · rw [if_neg h4]
          have hl := rises_length cs none hr trivial
          simp only at hl
          by_cases h0 : op = 0
          · simp only [if_pos h0]; exact H.new.new.fr _ _
          · simp only [if_neg h0]
            exact H.new.new.setEdges _ _ _ (by omega)
theorem chainP_ed : ∀ (ks : List Pat) (i o : Nat) (s : List NS), GoodL ks → EdOk s → EdOk (chainP ks i o s).2.2
  | [], i, o, s, _, H => by unfold chainP; exact H
  | k :: r, i, o, s, hg, H => by
    unfold GoodL at hg
    rw [chainP]
    exact chainP_ed r _ _ _ hg.2 ((layP_ed k s hg.1 H).fr _ _)
theorem kidsP_ed (a : Nat) : ∀ (ks : List Pat) (l : List Nat) (s : List NS), GoodL ks → EdOk s → EdOk (kidsP a ks l s).2
  | [], l, s, _, H => by unfold kidsP; exact H
  | k :: r, l, s, hg, H => by
    unfold GoodL at hg
    rw [kidsP]
    exact kidsP_ed a r _ _ hg.2 ((layP_ed k s hg.1 H).fr _ _)
end
/-- What an automaton laid can be. -/
structure AutOk (r : Nat × Nat × List NS) : Prop where
  ed : EdOk r.2.2
  tt : tot r.2.2 ≤ 1000000
theorem autP_ok (p : Pat) : AutOk (autP p) := by
  unfold autP
  split
  · rename_i he
    obtain ⟨hg, _, hn⟩ := check_good p he
    have := (layP_lies p [] hg).t
    exact ⟨layP_ed p [] hg (fun st h => by cases h), by simp [tot, totF] at this ⊢; omega⟩
  · exact ⟨fun st h => (by cases h), by simp [tot, totF]⟩

theorem ld2 {R : Type} {h : AHeap} {b o : Nat} {x y : Value} (h1 : h.cell? b o = some x) (h2 : h.cell? b (o + 1) = some y) (hx : ∃ a l c, x = .slice a l c) (hy : ∃ a l c, y = .slice a l c) (f : List Value → Option R) :
    h.ldL b [.slc, .slc] o f = f [x, y] := by
  obtain ⟨_, _, _, rfl⟩ := hx
  obtain ⟨_, _, _, rfl⟩ := hy
  simp only [ldL_cons, ldL_nil, ld1_eq, h1, h2, ob_some, asLK_slc]
theorem st2 {h : AHeap} {b : Nat} {x0 y0 : Value} {T : TypeId} (hg : h.get b = .cells [x0, y0] T none false) {x y : Value} (hx : ∃ a l c, x = .slice a l c) (hy : ∃ a l c, y = .slice a l c) (f : AHeap → Option Ans) :
    cStore 2 (P0 b 0) (.agg [x, y].toArray) h f = f (h.set b (.cells [x, y] T none false)) := by
  obtain ⟨a1, l1, c1, rfl⟩ := hx
  obtain ⟨a2, l2, c2, rfl⟩ := hy
  have hst : h.st b 0 [.slice a1 l1 c1, .slice a2 l2 c2] = some (h.set b (.cells [.slice a1 l1 c1, .slice a2 l2 c2] T none false)) := by
    rw [st_of hg (by simp) rfl]
    rfl
  rw [cStore_ptr _ _ _ _ _ (by simp [Value.cells])]
  simp only [Value.cells, List.toList_toArray, hst, ob_some]
/-- What lies at a state of an automaton. -/
structure StAt (h : AHeap) (v : Value) (k i : Nat) (st : NS) (S : Nat) (ve vf : Value) : Prop where
  v : v = S0 S 0 k k
  ce : h.cell? S (i * 2) = some ve
  cf : h.cell? S (i * 2 + 1) = some vf
  e : ∃ fe, EdgesRep h ve st.edges fe ∧ ∀ j ∈ fe, j < h.next
  f : ∃ ff, FreeRep h vf st.free ff ∧ ∀ j ∈ ff, j < h.next
  lt : S < h.next
theorem StsRep.at {h : AHeap} {v : Value} {s : List NS} {fs : List Nat} (H : StsRep h v s fs) (hl : ∀ j ∈ fs, j < h.next) {i : Nat} {st : NS} (e : s[i]? = some st) : ∃ S ve vf, StAt h v s.length i st S ve vf := by
  rcases H with ⟨rfl, _⟩ | ⟨S, cs, fc, _, h1, h2, h3, h4⟩
  · simp at e
  · obtain ⟨ve, vf, fe, ff, a, b, c, d, e1, e2⟩ := h3.at e
    subst h4
    exact ⟨S, ve, vf, h1, by rw [cell?_of h2]; exact a, by rw [cell?_of h2]; exact b, ⟨fe, c, fun j hj => hl j (List.mem_cons_of_mem _ (e1 j hj))⟩, ⟨ff, d, fun j hj => hl j (List.mem_cons_of_mem _ (e2 j hj))⟩, hl S List.mem_cons_self⟩
theorem cell?_keep {h h' : AHeap} {b o : Nat} (k : h'.get b = h.get b) : h'.cell? b o = h.cell? b o := by unfold AHeap.cell?; rw [k]
theorem StAt.frame {h h' : AHeap} {v : Value} {k i : Nat} {st : NS} {S : Nat} {ve vf : Value} (H : StAt h v k i st S ve vf) (hn : h.next ≤ h'.next) (kp : ∀ j, j < h.next → h'.get j = h.get j) : StAt h' v k i st S ve vf := by
  obtain ⟨fe, a, b⟩ := H.e
  obtain ⟨ff, c, d⟩ := H.f
  exact ⟨H.v, by rw [cell?_keep (kp S H.lt)]; exact H.ce, by rw [cell?_keep (kp S H.lt)]; exact H.cf, ⟨fe, a.frame fun j hj => kp j (b j hj), fun j hj => by have := b j hj; omega⟩, ⟨ff, c.frame fun j hj => kp j (d j hj), fun j hj => by have := d j hj; omega⟩, by have := H.lt; omega⟩
theorem StAt.se {h : AHeap} {v : Value} {k i : Nat} {st : NS} {S : Nat} {ve vf : Value} (H : StAt h v k i st S ve vf) : (∃ a c, ve = .slice a st.edges.length c) ∧ eqV ve ve = true := by
  obtain ⟨fe, a, _⟩ := H.e; exact a.slc
theorem StAt.sf {h : AHeap} {v : Value} {k i : Nat} {st : NS} {S : Nat} {ve vf : Value} (H : StAt h v k i st S ve vf) : (∃ a c, vf = .slice a st.free.length c) ∧ eqV vf vf = true := by
  obtain ⟨fe, a, _⟩ := H.f; exact a.slc
theorem StAt.ld {h : AHeap} {v : Value} {k i : Nat} {st : NS} {S : Nat} {ve vf : Value} (H : StAt h v k i st S ve vf) (R : Type) (f : List Value → Option R) : h.ldL S [.slc, .slc] (i * 2) f = f [ve, vf] := by
  obtain ⟨⟨_, _, e1⟩, _⟩ := H.se
  obtain ⟨⟨_, _, e2⟩, _⟩ := H.sf
  exact ld2 H.ce H.cf ⟨_, _, _, e1⟩ ⟨_, _, _, e2⟩ f
theorem StAt.eq2 {h : AHeap} {v : Value} {k i : Nat} {st : NS} {S : Nat} {ve vf : Value} (H : StAt h v k i st S ve vf) : eqV (.agg [ve, vf].toArray) (.agg [ve, vf].toArray) = true := by
  obtain ⟨⟨_, _, e1⟩, q1⟩ := H.se
  obtain ⟨⟨_, _, e2⟩, q2⟩ := H.sf
  exact eqV_two ⟨_, _, _, e1⟩ ⟨_, _, _, e2⟩ q1 q2

theorem totF_le {s : List NS} {st : NS} (h : st ∈ s) : st.free.length ≤ totF s := by
  obtain ⟨i, hi⟩ := List.mem_iff_getElem?.1 h
  exact totF_at hi

theorem ev30 (X : Call) (n : Nat) (v : Int) (h : AHeap) : evF EK X (n + 1) 30 [I v] h = some (.ret (I v) h) := by
  rw [evF_B _ _ _ _ _ _ (by kernel_rfl), g30_eq, g30]
  simp [updL_cons]
theorem AutAt.frame {e : Nat} {h h' : AHeap} {x : Value} {r : Nat × Nat × List NS} {fs : List Nat} (H : AutAt e h x r fs) (hn : h.next ≤ h'.next) (k : ∀ i ∈ fs, h'.get i = h.get i) : AutAt e h' x r fs := by
  obtain ⟨v, a, b, c, d⟩ := H
  exact ⟨v, a, b.frame k, c, fun j hj => by have := d j hj; exact ⟨this.1, by omega⟩⟩
theorem AutAt.val {e : Nat} {h : AHeap} {x : Value} {r : Nat × Nat × List NS} {fs : List Nat} (H : AutAt e h x r fs) : ∃ v, x = .agg [v, I r.1, I r.2.1].toArray ∧ ∃ a l c, v = .slice a l c := by
  obtain ⟨v, a, b, c, d⟩ := H
  obtain ⟨a', c', q⟩ := b.slc
  exact ⟨v, a, _, _, _, q⟩
/-- A call that gives an automaton and a number. -/
theorem call_aut {call : Call} {f : FuncId} {args : List Value} {h h' : AHeap} {x : Value} {e : Nat} {r : Nat × Nat × List NS} {fs : List Nat} {i : Int} (E : call f args h = some (.ret (.tuple #[x, I i]) h')) (H : AutAt e h' x r fs) (K kp : K2) :
    cCall call f args [(true, [.slc, .int .i64, .int .i64]), (false, [.int .i64])] h K kp = K (.tuple #[x, I i]) h' := by
  obtain ⟨v, rfl, a, l, c, rfl⟩ := H.val
  rw [cCall_ret E]
  simp only [asRetL_two, asResL_cons, asResL_nil, asTIL_agg, asLKs_cons, asLKs_nil, asLK_slc, asLK_int, asTIL_one, List.toList_toArray]

end Go.Amb
