/- Part of the proof by the abstract machine: no claim of its own. -/
import Derived.Test.YtnfncnchbogncaaRC
import Derived.Test.YtnfncnchbogncaaRA
set_option linter.unusedSimpArgs false
set_option linter.unusedVariables false
set_option linter.unnecessarySimpa false
set_option linter.unusedSectionVars false
section
/- Automata: the program's and the document's. -/
set_option linter.unusedVariables false
set_option linter.unusedSimpArgs false
namespace Go.Amb
open Go.Proofs

def autP (p : Pat) : Nat × Nat × List NS := if (checkF 64 p 0).1 = 0 then layP p [] else (0, 0, [])
/-- An automaton, its lists its own. -/
def AutAt (e : Nat) (h : AHeap) (x : Value) (r : Nat × Nat × List NS) (fs : List Nat) : Prop :=
  ∃ v, x = .agg [v, I r.1, I r.2.1].toArray ∧ StsRep h v r.2.2 fs ∧ fs.Nodup ∧ ∀ j ∈ fs, e ≤ j ∧ j < h.next
theorem StsRep.slc {h : AHeap} {v : Value} {s : List NS} {fs : List Nat} (H : StsRep h v s fs) : ∃ a c, v = .slice a s.length c := by
  rcases H with ⟨rfl, rfl, _⟩ | ⟨S, cs, fc, _, rfl, _⟩ <;> exact ⟨_, _, rfl⟩
theorem st3 {h : AHeap} {b : Nat} {x0 y0 z0 : Value} {T : TypeId} (hg : h.get b = .cells [x0, y0, z0] T none false) {x : Value} (hx : ∃ a l c, x = .slice a l c) (y z : Int) (f : AHeap → Option Ans) :
    cStore 3 (P0 b 0) (.agg [x, I y, I z].toArray) h f = f (h.set b (.cells [x, I y, I z] T none false)) := by
  obtain ⟨a, l, c, rfl⟩ := hx
  have hst : h.st b 0 [.slice a l c, I y, I z] = some (h.set b (.cells [.slice a l c, I y, I z] T none false)) := by
    rw [st_of hg (by simp) rfl]
    rfl
  rw [cStore_ptr _ _ _ _ _ (by simp [Value.cells])]
  simp only [Value.cells, List.toList_toArray, hst, ob_some]
theorem ld3 {R : Type} {h : AHeap} {b : Nat} {T : TypeId} {x : Value} {y z : Int} {rest : List Value} (hg : h.get b = .cells (x :: I y :: I z :: rest) T none false) (hx : ∃ a l c, x = .slice a l c) (f : List Value → Option R) :
    h.ldL b [.slc, .int .i64, .int .i64] 0 f = f [x, I y, I z] := by
  obtain ⟨a, l, c, rfl⟩ := hx
  simp only [ldL_cons, ldL_nil, ld1_eq, cell?_of hg, List.getElem?_cons_zero, List.getElem?_cons_succ, ob_some, asLK_slc, asLK_int]
theorem res67a (u : Value) (h : AHeap) (b : Nat) (f : List Value → Option Ans) : (ob (EK.ti.get 67) fun i => ob (ptr? (P0 b 0)) fun p => ob p fun p => h.ld i p.block p.off fun v => f [v, u]) = h.ldL b [.slc, .int .i64, .int .i64] 0 fun l => f [.agg l.toArray, u] := by kernel_rfl
theorem res67b (σ : St) (h : AHeap) (f : List Value → Option Ans) : evResS EK σ h [.cell 2 67, .tmp 3] f = ob (EK.ti.get 67) fun i => ob (ptr? (σ 2)) fun p => ob p fun p => h.ld i p.block p.off fun v => f [v, σ 3] := (rfl)
theorem res67 (σ : St) (h : AHeap) (b : Nat) (f : List Value → Option Ans) (h2 : σ 2 = P0 b 0) : evResS EK σ h [.cell 2 67, .tmp 3] f = h.ldL b [.slc, .int .i64, .int .i64] 0 fun l => f [.agg l.toArray, σ 3] := by
  rw [res67b, h2, res67a]
theorem Ctx.perm {h : AHeap} {N Q : Nat} {T : TypeId} {rest : List Value} {pins pins' : List (Nat × AObj)} {s : List NS} {fp : List Nat} (H : Ctx h N Q T rest pins s fp) (k : ∀ x ∈ pins', x ∈ pins) : Ctx h N Q T rest pins' s fp := ⟨H.rep, H.low, H.hn, fun x hx => H.pin x (k x hx)⟩
theorem fbox {h : AHeap} {N Q : Nat} {T : TypeId} {rest : List Value} {pins : List (Nat × AObj)} {s : List NS} {fp : List Nat} (H : Ctx h N Q T rest pins s fp) (t : TypeId) (g : Go.Fn) (x y : Array Value) :
    ∃ h', Ctx h' N Q T rest ((h.next, .cells [.func g x y] t none false) :: pins) s fp ∧ Fr h h' fp fp ∧ ∀ K : AHeap → Option Ans, cStore 1 (P0 h.next 0) (.func g x y) (h.new (.cells [.nilFunc] t none false)) K = K h' := by
  have hfresh : ∀ q ∈ pins, q.1 ≠ h.next := fun q hq => by have := (H.pin q hq).2.1; omega
  refine ⟨_, (H.new (.cells [.nilFunc] t none false)).turn (o' := .cells [.func g x y] t none false) hfresh, ⟨by simp, fun i hi _ => ?_, fun i hi => .inl hi⟩, fun K => ?_⟩
  · rw [AHeap.get_set_ne _ _ (by omega), get_new_lt _ hi]
  · have hst : (h.new (.cells [.nilFunc] t none false)).st h.next 0 [.func g x y] = some ((h.new (.cells [.nilFunc] t none false)).set h.next (.cells [.func g x y] t none false)) := by
      rw [st_of (get_new_self _ _) (by simp) rfl]
      rfl
    rw [cStore_ptr _ _ _ _ _ (by simp [Value.cells])]
    simp only [Value.cells, List.toList_toArray, hst, ob_some]
end Go.Amb
end

section
/- Automata: the program's. -/
set_option linter.unusedVariables false
set_option linter.unusedSimpArgs false
namespace Go.Amb
open Go.Proofs

theorem kind_res (σ : St) (h : AHeap) (b : Nat) {T : TypeId} {x : Value} {y z : Int} (h2 : σ 2 = P0 b 0) (hg : h.get b = .cells [x, I y, I z] T none false) (hx : ∃ a l c, x = .slice a l c) :
    finS EK [.cell 2 67, .tmp 3] .ret σ h = some (.ret (.tuple #[.agg [x, I y, I z].toArray, σ 3]) h) := by
  rw [finS_ret, res67 σ h b _ h2, ld3 hg hx]
  rfl

theorem st1I {h : AHeap} (b o : Nat) (x : Int) (f : AHeap → Option Ans) : cStore 1 (P0 b o) (I x) h f = ob (h.st b o [I x]) f := by
  rw [cStore_ptr 1 b o (I x) f rfl]
  rfl

theorem ev28 (X : Call) (n : Nat) {N : Nat} {h : AHeap} {p : Pat} {a b c : Value} (HP : PatAt N h p a b c) (hN : N ≤ h.next) (hn : p.wt + 2 ≤ n) :
    ∃ h' x fs, evF EK X (n + 1) 28 [.agg [a, b, c].toArray] h = some (.ret (.tuple #[x, I (checkF 64 p 0).1]) h') ∧ AutAt h.next h' x (autP p) fs ∧ h.next ≤ h'.next ∧ ∀ i, i < h.next → h'.get i = h.get i := by
  obtain ⟨n, rfl⟩ : ∃ q, n = q + 1 := ⟨n - 1, by omega⟩
  obtain ⟨ha, hb, _⟩ := HP.parts
  obtain ⟨ka, kc, hce, hk⟩ := HP.kidsSlc
  obtain ⟨ba, bc, hbe, hbl⟩ := hb.slc
  have g1 : (h.new (.cells [a, b, c] 64 none false)).get h.next = .cells [a, b, c] 64 none false := get_new_self _ _
  have g1' : ((h.new (.cells [a, b, c] 64 none false)).new (.cells [.slice none 0 0, I 0, I 0] 67 none false)).get h.next = .cells [a, b, c] 64 none false := by rw [get_new_lt _ (by simp)]; exact g1
  have g2 : ((h.new (.cells [a, b, c] 64 none false)).new (.cells [.slice none 0 0, I 0, I 0] 67 none false)).get (h.next + 1) = .cells [.slice none 0 0, I 0, I 0] 67 none false := get_new_self (h.new (.cells [a, b, c] 64 none false)) _
  have hn1 : (h.new (.cells [a, b, c] 64 none false)).next = h.next + 1 := rfl
  have k2 : ∀ i, i < h.next → ((h.new (.cells [a, b, c] 64 none false)).new (.cells [.slice none 0 0, I 0, I 0] 67 none false)).get i = h.get i := fun i hi => by rw [get_new_lt _ (by rw [hn1]; omega), get_new_lt _ hi]
  have n2 : ((h.new (.cells [a, b, c] 64 none false)).new (.cells [.slice none 0 0, I 0, I 0] 67 none false)).next = h.next + 2 := rfl
  rw [evF_B _ _ _ _ _ _ (by kernel_rfl), g28_eq, g28]
  simp only [st0_zero, cNew_eq, Value.cells, List.toList_toArray, hn1]
  generalize (h.new (.cells [a, b, c] 64 none false)).new (.cells [.slice none 0 0, I 0, I 0] 67 none false) = h2 at *
  have HP2 : PatAt N h2 p a b c := HP.frame (fun i hi => k2 i (by omega)) _
  have hld : ∀ (h' : AHeap) (R : Type) (f : List Value → Option R), h'.get h.next = .cells [a, b, c] 64 none false → h'.ldL h.next [.int .i64, .slc, .slc] 0 f = f [a, b, c] := fun h' R f hg =>
    load_kid ha ⟨_, _, _, hbe⟩ ⟨_, _, _, hce⟩ (by rw [cell?_of hg]; rfl) (by rw [cell?_of hg]; rfl) (by rw [cell?_of hg]; rfl)
  obtain ⟨h3, e3, n3, k3⟩ := ev55 X n HP2 (by omega) 64 (by omega)
  have g13 : h3.get h.next = .cells [a, b, c] 64 none false := by rw [k3 _ (by omega)]; exact g1'
  have g23 : h3.get (h.next + 1) = .cells [.slice none 0 0, I 0, I 0] 67 none false := by rw [k3 _ (by omega)]; exact g2
  simp only [cLoadA_ptr, hld _ _ _ g1']
  rw [cCall_ret e3]
  simp only [asRetL_one, asTIL_one, asLK_int, cBin_neq, cIf_eq]
  unfold autP
  by_cases he : (checkF 64 p 0).1 = 0
  · simp only [he, decide_true, Bool.not_true, Bool.false_eq_true, if_false, if_true]
    obtain ⟨hg, _, hnod⟩ := check_good p he
    -- the laying begins
    have HP3 : PatAt N h3 p a b c := HP2.frame (fun i hi => k3 i (by omega)) _
    have H4 : Ctx (h3.new (.cells [.slice none 0 0, I 0, I 0] 67 none false)) N h3.next 67 [I 0, I 0] [(h.next + 1, .cells [.slice none 0 0, I 0, I 0] 67 none false), (h.next, .cells [a, b, c] 64 none false)] [] [h3.next] := by
      refine ⟨⟨⟨nilS, [], get_new_self _ _, .inl ⟨rfl, rfl, rfl⟩, rfl⟩, by simp, fun i hi => by simp at hi; subst hi; simp⟩, fun i hi => by simp at hi; subst hi; omega, by simp; omega, fun x hx => ?_⟩
      rcases List.mem_cons.1 hx with rfl | hx
      · exact ⟨by rw [get_new_lt _ (by omega)]; exact g23, by simp; omega, by simp; omega⟩
      · simp at hx
        subst hx
        exact ⟨by rw [get_new_lt _ (by omega)]; exact g13, by simp; omega, by simp; omega⟩
    have F4 := Fr.new h3 (.cells [.slice none 0 0, I 0, I 0] 67 none false) [h3.next]
    generalize hh4 : h3.new (.cells [.slice none 0 0, I 0, I 0] 67 none false) = h4 at *
    generalize hQ : h3.next = Q at *
    obtain ⟨h5, H5, F5, e5⟩ := fbox H4 58 (.func 56) #[] #[P0 Q 0]
    obtain ⟨h6, H6, F6, e6⟩ := fbox H5 103 (.func 57) #[] #[P0 Q 0]
    have H7 := H6.new (.cells [.nilFunc] 104 none false)
    have F7 := Fr.new h6 (.cells [.nilFunc] 104 none false) [Q]
    generalize hh7 : h6.new (.cells [.nilFunc] 104 none false) = h7 at *
    obtain ⟨h8, H8, F8, e8⟩ := fbox H7 104 (.func 58) #[] #[P0 h4.next 0, P0 h6.next 0, P0 h5.next 0]
    obtain ⟨h9, H9, F9, e9⟩ := fbox H8 104 (.func 59) #[] #[P0 h4.next 0, P0 h6.next 0, P0 h5.next 0]
    obtain ⟨h10, H10, F10, e10⟩ := fbox H9 104 (.func 60) #[] #[P0 h6.next 0, P0 h5.next 0]
    have F310 := F4.trans (F5.trans (F6.trans (F7.trans (F8.trans (F9.trans F10)))))
    have q4 : h3.next ≤ h4.next := F4.next
    have q5 := (H5.pin _ List.mem_cons_self).2.1
    have q6 := (H6.pin _ List.mem_cons_self).2.1
    have q7 := (H7.pin _ List.mem_cons_self).2.1
    have q8 := (H8.pin _ List.mem_cons_self).2.1
    have q9 := (H9.pin _ List.mem_cons_self).2.1
    have q10 := (H10.pin _ List.mem_cons_self).2.1
    have hQ4 : Q < h4.next := H4.rep.lt Q (by simp)
    simp only at q5 q6 q7 q8 q9 q10
    have g10 := (H10.pin (h6.next, .cells [.nilFunc] 104 none false) (by simp)).1
    have H10' : Ctx h10 N Q 67 [I 0, I 0] ((h6.next, .cells [.nilFunc] 104 none false) :: [(h9.next, .cells [F60 ⟨h4.next, h5.next, h6.next, h7.next, h8.next, h9.next⟩] 104 none false), (h8.next, .cells [F59 ⟨h4.next, h5.next, h6.next, h7.next, h8.next, h9.next⟩] 104 none false), (h7.next, .cells [F58 ⟨h4.next, h5.next, h6.next, h7.next, h8.next, h9.next⟩] 104 none false), (h5.next, .cells [F57 Q] 103 none false), (h4.next, .cells [F56 Q] 58 none false), (h.next + 1, .cells [.slice none 0 0, I 0, I 0] 67 none false), (h.next, .cells [a, b, c] 64 none false)]) [] [Q] := H10.perm fun x hx => by
      simp only [List.mem_cons, List.not_mem_nil, or_false] at hx ⊢
      rcases hx with h | h | h | h | h | h | h | h <;> simp [h]
    have H11 := H10'.turn (o' := .cells [F61 ⟨h4.next, h5.next, h6.next, h7.next, h8.next, h9.next⟩ Q] 104 none false) (fun x hx => by
      simp only [List.mem_cons, List.not_mem_nil, or_false] at hx
      rcases hx with rfl | rfl | rfl | rfl | rfl | rfl | rfl <;> simp only [ne_eq] <;> omega)
    have hst : h10.st h6.next 0 [F61 ⟨h4.next, h5.next, h6.next, h7.next, h8.next, h9.next⟩ Q] = some (h10.set h6.next (.cells [F61 ⟨h4.next, h5.next, h6.next, h7.next, h8.next, h9.next⟩ Q] 104 none false)) := by
      rw [st_of g10 (by simp) rfl]
      rfl
    have k11 : ∀ i, i ≠ h6.next → (h10.set h6.next (.cells [F61 ⟨h4.next, h5.next, h6.next, h7.next, h8.next, h9.next⟩ Q] 104 none false)).get i = h10.get i := fun i hi => AHeap.get_set_ne _ _ hi
    have n11 : (h10.set h6.next (.cells [F61 ⟨h4.next, h5.next, h6.next, h7.next, h8.next, h9.next⟩ Q] 104 none false)).next = h10.next := rfl
    have e11 : ∀ K : AHeap → Option Ans, cStore 1 (P0 h6.next 0) (F61 ⟨h4.next, h5.next, h6.next, h7.next, h8.next, h9.next⟩ Q) h10 K = K (h10.set h6.next (.cells [F61 ⟨h4.next, h5.next, h6.next, h7.next, h8.next, h9.next⟩ Q] 104 none false)) := fun K => by
      rw [cStore_ptr _ _ _ _ _ (by simp [Value.cells])]
      simp only [Value.cells, List.toList_toArray, hst, ob_some]
    generalize h10.set h6.next (.cells [F61 ⟨h4.next, h5.next, h6.next, h7.next, h8.next, h9.next⟩ Q] 104 none false) = h11 at *
    have HP11 : PatAt N h11 p a b c := HP3.frame (fun i hi => by rw [k11 i (by omega)]; exact F310.keep i (by omega) (by simp; omega)) _
    obtain ⟨h12, fp', C12, F12, e12⟩ := (spec61 X ⟨h4.next, h5.next, h6.next, h7.next, h8.next, h9.next⟩ p.wt p (Nat.le_refl _)).call (n + 1) HP11 hg (by omega) H11 (fun x hx => by
      simp only [clos, List.mem_cons, List.not_mem_nil, or_false] at hx ⊢
      rcases hx with h | h | h | h | h | h <;> simp [h]) (by simp [tot, totF]; omega)
    generalize hL : layP p [] = L at *
    obtain ⟨v, fs, g12, hS, hfp⟩ := C12.rep.ex
    obtain ⟨va, vc, hv⟩ := hS.slc
    have hnd := C12.rep.nd
    rw [hfp, List.nodup_cons] at hnd
    have g12b := C12.pin (h.next + 1, .cells [.slice none 0 0, I 0, I 0] 67 none false) (by simp)
    have g11b := H11.cell (b := h6.next) List.mem_cons_self 0
    have g11a := (H11.pin (h.next, .cells [a, b, c] 64 none false) (by simp)).1
    obtain ⟨g12b, l12b, m12b⟩ := g12b
    simp only at g12b l12b m12b
    have s13 : h12.st Q 1 [I L.1] = some (h12.set Q (.cells [v, I L.1, I 0] 67 none false)) := by
      rw [st_of g12 (by simp) rfl]; rfl
    have s14 : (h12.set Q (.cells [v, I L.1, I 0] 67 none false)).st Q 2 [I L.2.1] = some ((h12.set Q (.cells [v, I L.1, I 0] 67 none false)).set Q (.cells [v, I L.1, I L.2.1] 67 none false)) := by
      rw [st_of (AHeap.get_set_same _ _ _) (by simp) rfl]; rfl
    have g14 := AHeap.get_set_same (h12.set Q (.cells [v, I L.1, I 0] 67 none false)) Q (.cells [v, I L.1, I L.2.1] 67 none false)
    have k14 : ∀ i, i ≠ Q → ((h12.set Q (.cells [v, I L.1, I 0] 67 none false)).set Q (.cells [v, I L.1, I L.2.1] 67 none false)).get i = h12.get i := fun i hi => by rw [AHeap.get_set_ne _ _ hi, AHeap.get_set_ne _ _ hi]
    have n14 : ((h12.set Q (.cells [v, I L.1, I 0] 67 none false)).set Q (.cells [v, I L.1, I L.2.1] 67 none false)).next = h12.next := rfl
    simp only [e5, e6, hh7, e8, e9, e10, e11, cLoad1_ptr, ld1_eq, g11b, List.getElem?_cons_zero, ob_some, asLK_any, hld _ _ _ g11a, e12, cExtract_eq, List.toList_toArray, List.getElem?_cons_succ, cFieldAddr_ptr, Nat.zero_add]
    rw [st1I, s13, ob_some, st1I, s14, ob_some]
    generalize (h12.set Q (.cells [v, I L.1, I 0] 67 none false)).set Q (.cells [v, I L.1, I L.2.1] 67 none false) = h14 at *
    have hvs : ∃ a l c, v = .slice a l c := ⟨_, _, _, hv⟩
    simp only [ld3 g14 hvs]
    rw [st3 (h := h14) (by rw [k14 _ (by omega)]; exact g12b) hvs]
    rw [kind_res _ _ (h.next + 1) (T := 67) (by simp [updL_cons]) (AHeap.get_set_same _ _ _) hvs]
    have n12 := F12.next
    refine ⟨_, _, fs, by simp [updL_cons]; rfl, ⟨v, rfl, hS.frame fun i hi => ?_, hnd.2, fun j hj => ?_⟩, by simp; omega, fun i hi => ?_⟩
    · have hiQ : i ≠ Q := fun e => hnd.1 (by rw [← e]; exact hi)
      have hib : i ≠ h.next + 1 := fun e => m12b (by rw [hfp, ← e]; exact List.mem_cons_of_mem _ hi)
      rw [AHeap.get_set_ne _ _ hib, k14 i hiQ]
    · have hjf : j ∈ fp' := by rw [hfp]; exact List.mem_cons_of_mem _ hj
      have := C12.rep.lt j hjf
      rcases F12.sub j hjf with q | q
      · simp at q
        exact absurd hj (by rw [q]; exact hnd.1)
      · simp; omega
    · rw [AHeap.get_set_ne _ _ (by omega), k14 i (by omega), F12.keep i (by omega) (by simp; omega), k11 i (by omega), F310.keep i (by omega) (by simp; omega), k3 i (by omega), k2 i hi]
  · simp only [he, decide_false, Bool.not_false, if_true, if_false]
    have hz : ∃ a l c, nilS = Value.slice a l c := ⟨_, _, _, rfl⟩
    simp only [cBuild_eq, fillP_nil, ob_some]
    rw [st3 g23 hz]
    rw [kind_res _ _ (h.next + 1) (T := 67) (x := nilS) (y := 0) (z := 0) (by simp [updL_cons]) (AHeap.get_set_same _ _ _) hz]
    refine ⟨_, _, [], by simp [updL_cons]; rfl, ⟨nilS, rfl, .inl ⟨rfl, rfl, rfl⟩, List.Pairwise.nil, fun j hj => by cases hj⟩, by simp; omega, fun i hi => ?_⟩
    rw [AHeap.get_set_ne _ _ (by omega), k3 i (by omega), k2 i hi]
end Go.Amb
end

section
/- Automata: the document's. -/
set_option linter.unusedVariables false
set_option linter.unusedSimpArgs false
namespace Go.Amb
open Go.Proofs

theorem fill3 {v : Value} (hv : ∃ a n c, v = .slice a n c) {i o : Int} : fillP [(0, 1, v), (1, 1, I i), (2, 1, I o)] [.slice none 0 0, .int .i64 0, .int .i64 0] = some [v, I i, I o] := by
  obtain ⟨_, _, _, rfl⟩ := hv
  rfl
theorem ev29 (X : Call) (n : Nat) {N : Nat} {h : AHeap} {p : Pat} {a b c : Value} (HP : PatAt N h p a b c) (hN : N ≤ h.next) (hn : p.wt + 2 ≤ n) :
    ∃ h' x fs, evF EK X (n + 1) 29 [.agg [a, b, c].toArray] h = some (.ret (.tuple #[x, I (checkF 64 p 0).1]) h') ∧ AutAt h.next h' x (autP p) fs ∧ h.next ≤ h'.next ∧ ∀ i, i < h.next → h'.get i = h.get i := by
  obtain ⟨n, rfl⟩ : ∃ q, n = q + 1 := ⟨n - 1, by omega⟩
  obtain ⟨ha, hb, _⟩ := HP.parts
  obtain ⟨ka, kc, hce, hk⟩ := HP.kidsSlc
  obtain ⟨ba, bc, hbe, hbl⟩ := hb.slc
  have g1 : (h.new (.cells [a, b, c] 64 none false)).get h.next = .cells [a, b, c] 64 none false := get_new_self _ _
  have g1' : ((h.new (.cells [a, b, c] 64 none false)).new (.cells [.slice none 0 0, I 0, I 0] 67 none false)).get h.next = .cells [a, b, c] 64 none false := by rw [get_new_lt _ (by simp)]; exact g1
  have g2 : ((h.new (.cells [a, b, c] 64 none false)).new (.cells [.slice none 0 0, I 0, I 0] 67 none false)).get (h.next + 1) = .cells [.slice none 0 0, I 0, I 0] 67 none false := get_new_self (h.new (.cells [a, b, c] 64 none false)) _
  have hn1 : (h.new (.cells [a, b, c] 64 none false)).next = h.next + 1 := rfl
  have k2 : ∀ i, i < h.next → ((h.new (.cells [a, b, c] 64 none false)).new (.cells [.slice none 0 0, I 0, I 0] 67 none false)).get i = h.get i := fun i hi => by rw [get_new_lt _ (by rw [hn1]; omega), get_new_lt _ hi]
  have n2 : ((h.new (.cells [a, b, c] 64 none false)).new (.cells [.slice none 0 0, I 0, I 0] 67 none false)).next = h.next + 2 := rfl
  rw [evF_B _ _ _ _ _ _ (by kernel_rfl), g29_eq, g29]
  simp only [st0_zero, cNew_eq, Value.cells, List.toList_toArray, hn1]
  generalize (h.new (.cells [a, b, c] 64 none false)).new (.cells [.slice none 0 0, I 0, I 0] 67 none false) = h2 at *
  have HP2 : PatAt N h2 p a b c := HP.frame (fun i hi => k2 i (by omega)) _
  have hld : ∀ (h' : AHeap) (R : Type) (f : List Value → Option R), h'.get h.next = .cells [a, b, c] 64 none false → h'.ldL h.next [.int .i64, .slc, .slc] 0 f = f [a, b, c] := fun h' R f hg =>
    load_kid ha ⟨_, _, _, hbe⟩ ⟨_, _, _, hce⟩ (by rw [cell?_of hg]; rfl) (by rw [cell?_of hg]; rfl) (by rw [cell?_of hg]; rfl)
  obtain ⟨h3, e3, n3, k3⟩ := ev62 X n HP2 (by omega) 64 (by omega)
  have g13 : h3.get h.next = .cells [a, b, c] 64 none false := by rw [k3 _ (by omega)]; exact g1'
  have g23 : h3.get (h.next + 1) = .cells [.slice none 0 0, I 0, I 0] 67 none false := by rw [k3 _ (by omega)]; exact g2
  simp only [cLoadA_ptr, hld _ _ _ g1']
  rw [cCall_ret e3]
  simp only [asRetL_one, asTIL_one, asLK_int, cBin_neq, cIf_eq]
  unfold autP
  by_cases he : (checkF 64 p 0).1 = 0
  · simp only [he, decide_true, Bool.not_true, Bool.false_eq_true, if_false, if_true]
    obtain ⟨hg, _, hnod⟩ := check_good p he
    have HP3 : PatAt N h3 p a b c := HP2.frame (fun i hi => k3 i (by omega)) _
    have H4 : Ctx (h3.new (.cells [.slice none 0 0] 110 none false)) N h3.next 110 [] [(h.next + 1, .cells [.slice none 0 0, I 0, I 0] 67 none false), (h.next, .cells [a, b, c] 64 none false)] [] [h3.next] := by
      refine ⟨⟨⟨nilS, [], get_new_self _ _, .inl ⟨rfl, rfl, rfl⟩, rfl⟩, by simp, fun i hi => by simp at hi; subst hi; simp⟩, fun i hi => by simp at hi; subst hi; omega, by simp; omega, fun x hx => ?_⟩
      rcases List.mem_cons.1 hx with rfl | hx
      · exact ⟨by rw [get_new_lt _ (by omega)]; exact g23, by simp; omega, by simp; omega⟩
      · simp at hx
        subst hx
        exact ⟨by rw [get_new_lt _ (by omega)]; exact g13, by simp; omega, by simp; omega⟩
    have F4 := Fr.new h3 (.cells [.slice none 0 0] 110 none false) [h3.next]
    have g14 := (H4.pin (h.next, .cells [a, b, c] 64 none false) (by simp)).1
    obtain ⟨h12, fp', C12, F12, e12⟩ := (spec63 X p.wt p (Nat.le_refl _)).call (n + 1) (HP3.frame (fun i hi => get_new_lt _ (by omega)) _) hg (by omega) H4 (by simp [tot, totF]; omega)
    generalize hL : layP p [] = L at *
    obtain ⟨v, fs, g12, hS, hfp⟩ := C12.rep.ex
    obtain ⟨va, vc, hv⟩ := hS.slc
    have hnd := C12.rep.nd
    rw [hfp, List.nodup_cons] at hnd
    obtain ⟨g12b, l12b, m12b⟩ := C12.pin (h.next + 1, .cells [.slice none 0 0, I 0, I 0] 67 none false) (by simp)
    simp only at g12b l12b m12b
    have hvs : ∃ a l c, v = .slice a l c := ⟨_, _, _, hv⟩
    simp only [cBuild_eq, fillP_nil, ob_some, Value.cells, List.toList_toArray, cLoadA_ptr, hld _ _ _ g14, e12, cExtract_eq, List.getElem?_cons_zero, List.getElem?_cons_succ, cNilCheck_ptr, cFieldAddr_ptr, Nat.zero_add, cLoad1_ptr, ld1_eq, cell?_of g12]
    rw [hv]
    simp only [asLK_slc]
    rw [← hv]
    rw [fill3 hvs]
    simp only [ob_some]
    rw [st3 (h := h12) g12b hvs]
    rw [kind_res _ _ (h.next + 1) (T := 67) (by simp [updL_cons]) (AHeap.get_set_same _ _ _) hvs]
    have n12 := F12.next
    have n4 : (h3.new (.cells [.slice none 0 0] 110 none false)).next = h3.next + 1 := rfl
    refine ⟨_, _, fs, by simp [updL_cons]; rfl, ⟨v, rfl, hS.frame fun i hi => ?_, hnd.2, fun j hj => ?_⟩, by simp; omega, fun i hi => ?_⟩
    · have hib : i ≠ h.next + 1 := fun e => m12b (by rw [hfp, ← e]; exact List.mem_cons_of_mem _ hi)
      rw [AHeap.get_set_ne _ _ hib]
    · have hjf : j ∈ fp' := by rw [hfp]; exact List.mem_cons_of_mem _ hj
      have := C12.rep.lt j hjf
      rcases F12.sub j hjf with q | q
      · simp at q
        exact absurd hj (by rw [q]; exact hnd.1)
      · simp; omega
    · rw [AHeap.get_set_ne _ _ (by omega), F12.keep i (by omega) (by simp; omega), get_new_lt _ (by omega), k3 i (by omega), k2 i hi]
  · simp only [he, decide_false, Bool.not_false, if_true, if_false]
    have hz : ∃ a l c, nilS = Value.slice a l c := ⟨_, _, _, rfl⟩
    simp only [cBuild_eq, fillP_nil, ob_some]
    rw [st3 g23 hz]
    rw [kind_res _ _ (h.next + 1) (T := 67) (x := nilS) (y := 0) (z := 0) (by simp [updL_cons]) (AHeap.get_set_same _ _ _) hz]
    refine ⟨_, _, [], by simp [updL_cons]; rfl, ⟨nilS, rfl, .inl ⟨rfl, rfl, rfl⟩, List.Pairwise.nil, fun j hj => by cases hj⟩, by simp; omega, fun i hi => ?_⟩
    rw [AHeap.get_set_ne _ _ (by omega), k3 i (by omega), k2 i hi]
end Go.Amb
end

section
/- Automata compared: lists of numbers; what lies at a state. -/
set_option linter.unusedVariables false
set_option linter.unusedSimpArgs false
namespace Go.Amb
open Go.Proofs

def IL (h : AHeap) (v : Value) (l : List Int) : Prop := ∃ a c, v = .slice a l.length c ∧ ∀ i x, l[i]? = some x → ∃ F, a = some ⟨F, 0, none⟩ ∧ h.cell? F i = some (I x)
theorem IL.of {h : AHeap} {F : Nat} {l : List Int} {c : Nat} {e : TypeId} {opn : Option Nat} {ro : Bool} (hg : h.get F = .cells (ints l) e opn ro) : IL h (S0 F 0 l.length c) l :=
  ⟨_, _, rfl, fun i x hx => ⟨F, rfl, by rw [cell?_of hg]; simp [ints, hx]⟩⟩
theorem IL.nil (h : AHeap) : IL h nilS [] := ⟨none, 0, rfl, fun i x hx => by simp at hx⟩
theorem FreeRep.il {h : AHeap} {v : Value} {l : List Int} {fp : List Nat} (H : FreeRep h v l fp) : IL h v l := by
  rcases H with ⟨rfl, rfl, _⟩ | ⟨F, _, rfl, hg, _⟩
  · exact IL.nil h
  · exact IL.of hg
theorem ClsRep.il {h : AHeap} {v : Value} {l : List Int} {fp : List Nat} (H : ClsRep h v l fp) : IL h v l := by
  rcases H with ⟨rfl, rfl, _⟩ | ⟨F, _, rfl, hg, _⟩
  · exact IL.nil h
  · exact IL.of hg
theorem CellsRep.at {h : AHeap} : ∀ {sts : List NS} {cs : List Value} {fp : List Nat} {i : Nat} {st : NS}, CellsRep h cs sts fp → sts[i]? = some st → ∃ ve vf fe ff, cs[i * 2]? = some ve ∧ cs[i * 2 + 1]? = some vf ∧ EdgesRep h ve st.edges fe ∧ FreeRep h vf st.free ff ∧ (∀ j ∈ fe, j ∈ fp) ∧ (∀ j ∈ ff, j ∈ fp) := by
  intro sts
  induction sts with
  | nil => intro cs fp i st H e; simp at e
  | cons s0 sts ih =>
    intro cs fp i st H e
    match cs, H with
    | ve :: vf :: cs, ⟨fe, ff, fr, h1, h2, h3, h4⟩ =>
      subst h4
      cases i with
      | zero =>
        simp at e
        subst e
        exact ⟨ve, vf, fe, ff, rfl, rfl, h1, h2, fun j hj => by simp [hj], fun j hj => by simp [hj]⟩
      | succ i =>
        simp at e
        obtain ⟨ve', vf', fe', ff', a, b, c, d, e1, e2⟩ := ih h3 e
        refine ⟨ve', vf', fe', ff', ?_, ?_, c, d, fun j hj => by simp [e1 j hj], fun j hj => by simp [e2 j hj]⟩
        · rw [show (i + 1) * 2 = i * 2 + 1 + 1 by omega, List.getElem?_cons_succ, List.getElem?_cons_succ]; exact a
        · rw [show (i + 1) * 2 + 1 = i * 2 + 1 + 1 + 1 by omega, List.getElem?_cons_succ, List.getElem?_cons_succ]; exact b
theorem EdgesRep.slc {h : AHeap} {v : Value} {es : List (List Int × Int)} {fp : List Nat} (H : EdgesRep h v es fp) : (∃ a c, v = .slice a es.length c) ∧ eqV v v = true := by
  rcases H with ⟨rfl, rfl, _⟩ | ⟨cls, to, G, vc, fc, rfl, rfl, _⟩
  · exact ⟨⟨_, _, rfl⟩, rfl⟩
  · exact ⟨⟨_, _, rfl⟩, eqV_S0 _ _ _ _⟩
theorem FreeRep.slc {h : AHeap} {v : Value} {l : List Int} {fp : List Nat} (H : FreeRep h v l fp) : (∃ a c, v = .slice a l.length c) ∧ eqV v v = true := by
  rcases H with ⟨rfl, rfl, _⟩ | ⟨F, _, rfl, _⟩
  · exact ⟨⟨_, _, rfl⟩, rfl⟩
  · exact ⟨⟨_, _, rfl⟩, eqV_S0 _ _ _ _⟩
theorem eqV_two {x y : Value} (hx : ∃ a l c, x = .slice a l c) (hy : ∃ a l c, y = .slice a l c) (h1 : eqV x x = true) (h2 : eqV y y = true) : eqV (.agg [x, y].toArray) (.agg [x, y].toArray) = true := by
  obtain ⟨_, _, _, rfl⟩ := hx
  obtain ⟨_, _, _, rfl⟩ := hy
  simp [eqV, eqL1, eqV1] at h1 h2 ⊢
  exact ⟨h1, h2⟩

theorem ev64 (X : Call) (n : Nat) {h : AHeap} {v w : Value} {l : List Int} (Hv : IL h v l) (Hw : IL h w l) (hl : l.length < n) (ht : l.length ≤ 1000000) : evF EK X (n + 1) 64 [v, w] h = some (.ret (.bool true) h) := by
  have key : ∀ (m i f : Nat) (σ : St), l.length - i = m → i ≤ l.length → m < f → σ 0 = v → σ 1 = w → σ 5 = I i → loopS (g64_L1 (evF EK X n) n) f σ h (hBlk 0 (hSeq (fun σ h => g64_C2 (evF EK X n) n σ h (finS EK [.tmp 4])) (finS EK [.tmp 4]))) = some (.ret (.bool true) h) := by
    intro m
    induction m with
    | zero =>
      intro i f σ hm hi hf q0 q1 q5
      obtain ⟨f, rfl⟩ : ∃ q, f = q + 1 := ⟨f - 1, by omega⟩
      have hil : i = l.length := by omega
      subst hil
      obtain ⟨a, c, rfl, _⟩ := Hv
      rw [loopS_succ, g64_L1]
      simp only [q0, q5, cLenS_eq, cBin_lss, Int.lt_irrefl, decide_false, cIf_eq, Bool.false_eq_true, if_false, loopK_exit, hBlk_same, hSeq_normal, g64_C2]
      simp [updL_cons]
    | succ m ih =>
      intro i f σ hm hi hf q0 q1 q5
      obtain ⟨f, rfl⟩ : ∃ q, f = q + 1 := ⟨f - 1, by omega⟩
      have hil : i < l.length := by omega
      have hget : l[i]? = some l[i] := List.getElem?_eq_getElem hil
      generalize l[i] = x at hget
      obtain ⟨a, c, hv, kv⟩ := Hv
      obtain ⟨b, d, hw, kw⟩ := Hw
      obtain ⟨F, rfl, cF⟩ := kv i x hget
      obtain ⟨G, rfl, cG⟩ := kw i x hget
      have hlt : ((i : Int) < (l.length : Int)) := by omega
      rw [loopS_succ, g64_L1]
      simp only [q0, q1, q5, hv, hw, cLenS_eq, cBin_lss, hlt, decide_true, cIf_eq, if_true, cIdxS_slice, idx?_nat hil, ob_some, Nat.zero_add, Nat.mul_one, rety_eq, dr_ret, cLoad1_ptr, ld1_eq, cF, cG, asLK_int, cBin_neq, Bool.not_true, Bool.false_eq_true, if_false]
      rw [cBin_add _ _ _ (by omega) (by omega)]
      simp only [loopK_normal]
      refine ih (i + 1) f _ (by omega) (by omega) (by omega) ?_ ?_ ?_
      all_goals simp [updL_cons, q0, q1, hv, hw]
  obtain ⟨a, c, hv, _⟩ := id Hv
  obtain ⟨b, d, hw, _⟩ := id Hw
  rw [evF_B _ _ _ _ _ _ (by kernel_rfl), g64_eq, g64]
  simp only [st0_zero, st0_succ, hv, hw, cLenS_eq, cBin_neq, decide_true, Bool.not_true, cIf_eq, Bool.false_eq_true, if_false]
  refine key l.length 0 n _ (by omega) (by omega) (by omega) ?_ ?_ ?_
  all_goals simp [updL_cons, hv, hw]
end Go.Amb
end

section
/- Automata: their classes are few. -/
set_option linter.unusedVariables false
set_option linter.unusedSimpArgs false
namespace Go.Amb

def EdOk (s : List NS) : Prop := ∀ st ∈ s, ∀ ed ∈ st.edges, ed.1.length ≤ 64
theorem EdOk.new {s : List NS} (H : EdOk s) : EdOk (newS s) := by
  intro st hst ed hed
  unfold newS at hst
  rcases List.mem_append.1 hst with h | h
  · exact H st h ed hed
  · simp at h; subst h; simp at hed
theorem EdOk.setFree : ∀ {s : List NS} (a : Nat) (l : List Int), EdOk s → EdOk (setFree s a l) := by
  intro s
  induction s with
  | nil => intro a l H; exact H
  | cons x s ih =>
    intro a l H
    have Hs : EdOk s := fun st hst => H st (List.mem_cons_of_mem _ hst)
    cases a with
    | zero =>
      intro st hst ed hed
      rcases List.mem_cons.1 hst with rfl | h
      · exact H x List.mem_cons_self ed hed
      · exact Hs st h ed hed
    | succ a =>
      intro st hst ed hed
      rcases List.mem_cons.1 hst with rfl | h
      · exact H st List.mem_cons_self ed hed
      · exact ih a l Hs st h ed hed
theorem EdOk.setEdges : ∀ {s : List NS} (a : Nat) (cs : List Int) (t : Int), cs.length ≤ 64 → EdOk s → EdOk (setEdges s a [(cs, t)]) := by
  intro s
  induction s with
  | nil => intro a cs t h H; exact H
  | cons x s ih =>
    intro a cs t hc H
    have Hs : EdOk s := fun st hst => H st (List.mem_cons_of_mem _ hst)
    cases a with
    | zero =>
      intro st hst ed hed
      rcases List.mem_cons.1 hst with rfl | h
      · simp at hed; subst hed; exact hc
      · exact Hs st h ed hed
    | succ a =>
      intro st hst ed hed
      rcases List.mem_cons.1 hst with rfl | h
      · exact H st List.mem_cons_self ed hed
      · exact ih a cs t hc Hs st h ed hed
theorem EdOk.fr {s : List NS} (a t : Nat) (H : EdOk s) : EdOk (frS s a t) := by
  unfold frS
  split
  · exact H.setFree _ _
  · exact H
theorem EdOk.outs (b : Nat) : ∀ (l : List Nat) {s : List NS}, EdOk s → EdOk (outsP b l s) := by
  intro l
  induction l with
  | nil => intro s H; exact H
  | cons o l ih => intro s H; exact ih (H.fr o b)
theorem EdOk.tie (op : Int) (a i o b : Nat) {s : List NS} (H : EdOk s) : EdOk (tieP op a i o b s) := by
  unfold tieP tie3 tie2
  split <;> split <;> (repeat apply EdOk.fr) <;> exact H
mutual
theorem layP_ed : ∀ (p : Pat) (s : List NS), GoodP p → EdOk s → EdOk (layP p s).2.2
  | .mk op cs ks, s, h, H => by
    have hg := h.eq.2.2
    have hr := h.eq.2.1
    simp only [Pat.kids, Pat.cls] at hg hr
    rw [layP_mk]
    by_cases h2 : op = 2
    · rw [if_pos h2]
      match ks, hg with
      | [], _ => exact H
      | k :: r, hg =>
        unfold GoodL at hg
        simp only [headP]
        exact chainP_ed r _ _ _ hg.2 (layP_ed k s hg.1 H)
    · rw [if_neg h2]
      by_cases h3 : op = 3
      · rw [if_pos h3]
        exact (kidsP_ed _ ks _ _ hg H.new).new.outs _ _
      · rw [if_neg h3]
        by_cases h4 : op = 4 ∨ op = 5 ∨ op = 6
        · rw [if_pos h4]
          match ks, hg with
          | [], _ => exact (EdOk.new H.new).tie _ _ _ _ _
          | k :: r, hg =>
            unfold GoodL at hg
            simp only [firstP]
            exact (layP_ed k _ hg.1 H.new).new.tie _ _ _ _ _
        · rw [if_neg h4]
          have hl := rises_length cs none hr trivial
          simp only at hl
          by_cases h0 : op = 0
          · simp only [if_pos h0]; exact H.new.new.fr _ _
          · simp only [if_neg h0]
            exact H.new.new.setEdges _ _ _ (by omega)
theorem chainP_ed : ∀ (ks : List Pat) (i o : Nat) (s : List NS), GoodL ks → EdOk s → EdOk (chainP ks i o s).2.2
  | [], i, o, s, _, H => by unfold chainP; exact H
  | k :: r, i, o, s, hg, H => by
    unfold GoodL at hg
    rw [chainP]
    exact chainP_ed r _ _ _ hg.2 ((layP_ed k s hg.1 H).fr _ _)
theorem kidsP_ed (a : Nat) : ∀ (ks : List Pat) (l : List Nat) (s : List NS), GoodL ks → EdOk s → EdOk (kidsP a ks l s).2
  | [], l, s, _, H => by unfold kidsP; exact H
  | k :: r, l, s, hg, H => by
    unfold GoodL at hg
    rw [kidsP]
    exact kidsP_ed a r _ _ hg.2 ((layP_ed k s hg.1 H).fr _ _)
end
/-- What an automaton laid can be. -/
structure AutOk (r : Nat × Nat × List NS) : Prop where
  ed : EdOk r.2.2
  tt : tot r.2.2 ≤ 1000000
theorem autP_ok (p : Pat) : AutOk (autP p) := by
  unfold autP
  split
  · rename_i he
    obtain ⟨hg, _, hn⟩ := check_good p he
    have := (layP_lies p [] hg).t
    exact ⟨layP_ed p [] hg (fun st h => by cases h), by simp [tot, totF] at this ⊢; omega⟩
  · exact ⟨fun st h => (by cases h), by simp [tot, totF]⟩
end Go.Amb
end

section
/- Automata compared. -/
set_option linter.unusedVariables false
set_option linter.unusedSimpArgs false
namespace Go.Amb
open Go.Proofs

theorem ld2 {R : Type} {h : AHeap} {b o : Nat} {x y : Value} (h1 : h.cell? b o = some x) (h2 : h.cell? b (o + 1) = some y) (hx : ∃ a l c, x = .slice a l c) (hy : ∃ a l c, y = .slice a l c) (f : List Value → Option R) :
    h.ldL b [.slc, .slc] o f = f [x, y] := by
  obtain ⟨_, _, _, rfl⟩ := hx
  obtain ⟨_, _, _, rfl⟩ := hy
  simp only [ldL_cons, ldL_nil, ld1_eq, h1, h2, ob_some, asLK_slc]
theorem st2 {h : AHeap} {b : Nat} {x0 y0 : Value} {T : TypeId} (hg : h.get b = .cells [x0, y0] T none false) {x y : Value} (hx : ∃ a l c, x = .slice a l c) (hy : ∃ a l c, y = .slice a l c) (f : AHeap → Option Ans) :
    cStore 2 (P0 b 0) (.agg [x, y].toArray) h f = f (h.set b (.cells [x, y] T none false)) := by
  obtain ⟨a1, l1, c1, rfl⟩ := hx
  obtain ⟨a2, l2, c2, rfl⟩ := hy
  have hst : h.st b 0 [.slice a1 l1 c1, .slice a2 l2 c2] = some (h.set b (.cells [.slice a1 l1 c1, .slice a2 l2 c2] T none false)) := by
    rw [st_of hg (by simp) rfl]
    rfl
  rw [cStore_ptr _ _ _ _ _ (by simp [Value.cells])]
  simp only [Value.cells, List.toList_toArray, hst, ob_some]
theorem hk2 {h' : AHeap} {n : Nat} (hn : h'.get n = .cells [nilS, nilS] 102 none false) : hkB (some ([nilS, nilS], 102)) (P0 n 0) h' = true := by
  unfold hkB
  simp [blkOf, hn, eqL1, eqV1, eqAddr]
/-- What lies at a state of an automaton. -/
structure StAt (h : AHeap) (v : Value) (k i : Nat) (st : NS) (S : Nat) (ve vf : Value) : Prop where
  v : v = S0 S 0 k k
  ce : h.cell? S (i * 2) = some ve
  cf : h.cell? S (i * 2 + 1) = some vf
  e : ∃ fe, EdgesRep h ve st.edges fe ∧ ∀ j ∈ fe, j < h.next
  f : ∃ ff, FreeRep h vf st.free ff ∧ ∀ j ∈ ff, j < h.next
  lt : S < h.next
theorem StsRep.at {h : AHeap} {v : Value} {s : List NS} {fs : List Nat} (H : StsRep h v s fs) (hl : ∀ j ∈ fs, j < h.next) {i : Nat} {st : NS} (e : s[i]? = some st) : ∃ S ve vf, StAt h v s.length i st S ve vf := by
  rcases H with ⟨rfl, _⟩ | ⟨S, cs, fc, _, h1, h2, h3, h4⟩
  · simp at e
  · obtain ⟨ve, vf, fe, ff, a, b, c, d, e1, e2⟩ := h3.at e
    subst h4
    exact ⟨S, ve, vf, h1, by rw [cell?_of h2]; exact a, by rw [cell?_of h2]; exact b, ⟨fe, c, fun j hj => hl j (List.mem_cons_of_mem _ (e1 j hj))⟩, ⟨ff, d, fun j hj => hl j (List.mem_cons_of_mem _ (e2 j hj))⟩, hl S List.mem_cons_self⟩
theorem cell?_keep {h h' : AHeap} {b o : Nat} (k : h'.get b = h.get b) : h'.cell? b o = h.cell? b o := by unfold AHeap.cell?; rw [k]
theorem StAt.frame {h h' : AHeap} {v : Value} {k i : Nat} {st : NS} {S : Nat} {ve vf : Value} (H : StAt h v k i st S ve vf) (hn : h.next ≤ h'.next) (kp : ∀ j, j < h.next → h'.get j = h.get j) : StAt h' v k i st S ve vf := by
  obtain ⟨fe, a, b⟩ := H.e
  obtain ⟨ff, c, d⟩ := H.f
  exact ⟨H.v, by rw [cell?_keep (kp S H.lt)]; exact H.ce, by rw [cell?_keep (kp S H.lt)]; exact H.cf, ⟨fe, a.frame fun j hj => kp j (b j hj), fun j hj => by have := b j hj; omega⟩, ⟨ff, c.frame fun j hj => kp j (d j hj), fun j hj => by have := d j hj; omega⟩, by have := H.lt; omega⟩
theorem StAt.se {h : AHeap} {v : Value} {k i : Nat} {st : NS} {S : Nat} {ve vf : Value} (H : StAt h v k i st S ve vf) : (∃ a c, ve = .slice a st.edges.length c) ∧ eqV ve ve = true := by
  obtain ⟨fe, a, _⟩ := H.e; exact a.slc
theorem StAt.sf {h : AHeap} {v : Value} {k i : Nat} {st : NS} {S : Nat} {ve vf : Value} (H : StAt h v k i st S ve vf) : (∃ a c, vf = .slice a st.free.length c) ∧ eqV vf vf = true := by
  obtain ⟨fe, a, _⟩ := H.f; exact a.slc
theorem StAt.ld {h : AHeap} {v : Value} {k i : Nat} {st : NS} {S : Nat} {ve vf : Value} (H : StAt h v k i st S ve vf) (R : Type) (f : List Value → Option R) : h.ldL S [.slc, .slc] (i * 2) f = f [ve, vf] := by
  obtain ⟨⟨_, _, e1⟩, _⟩ := H.se
  obtain ⟨⟨_, _, e2⟩, _⟩ := H.sf
  exact ld2 H.ce H.cf ⟨_, _, _, e1⟩ ⟨_, _, _, e2⟩ f
theorem StAt.eq2 {h : AHeap} {v : Value} {k i : Nat} {st : NS} {S : Nat} {ve vf : Value} (H : StAt h v k i st S ve vf) : eqV (.agg [ve, vf].toArray) (.agg [ve, vf].toArray) = true := by
  obtain ⟨⟨_, _, e1⟩, q1⟩ := H.se
  obtain ⟨⟨_, _, e2⟩, q2⟩ := H.sf
  exact eqV_two ⟨_, _, _, e1⟩ ⟨_, _, _, e2⟩ q1 q2

theorem c5 (call : Call) (lf : Nat) (σ : St) (h : AHeap) (k : KS) (i : Nat) (q97 : σ 97 = .bool false) (q8 : σ 8 = I i) (hi : i < 1000000) : g31_C5 call lf σ h k = k .normal (updL σ [(8, I (i + 1)), (68, I (i + 1)), (67, I i)]) h := by
  rw [g31_C5]
  simp only [q97, q8, cIf_eq, Bool.false_eq_true, if_false]
  rw [cBin_add _ _ _ (by omega) (by omega)]
/-- A state's edges compared. -/
theorem ev31_edges (X : Call) (n lf : Nat) (hlf : 3 ≤ lf) (hn : 70 ≤ n) {h : AHeap} {b6 b7 : Nat} {ve vf we wf : Value} {es : List (List Int × Int)} {fe ge : List Nat} (g6 : h.get b6 = .cells [ve, vf] 102 none false) (g7 : h.get b7 = .cells [we, wf] 102 none false)
    (He : EdgesRep h ve es fe) (Hg : EdgesRep h we es ge) (hes : ∀ ed ∈ es, ed.1.length ≤ 64) (K : KS) (P : Option Ans → Prop) (σ : St) (q6 : σ 6 = P0 b6 0) (q7 : σ 7 = P0 b7 0) (q8 : σ 8 = I 0) (kx : ∀ σ', σ' 2 = σ 2 → σ' 3 = σ 3 → σ' 5 = σ 5 → P (K (.exit 2) σ' h)) :
    P (loopS (g31_L4 (evF EK X (n + 1)) lf) lf σ h K) := by
  obtain ⟨lf, rfl⟩ : ∃ q, lf = q + 1 + 1 := ⟨lf - 2, by omega⟩
  have out : ∀ (σ' : St) (f : Nat) (a : Option Addr) (c : Nat), ve = .slice a es.length c → σ' 6 = P0 b6 0 → σ' 8 = I es.length → σ' 2 = σ 2 → σ' 3 = σ 3 → σ' 5 = σ 5 → P (loopS (g31_L4 (evF EK X (n + 1)) (lf + 1 + 1)) (f + 1) σ' h K) := by
    intro σ' f a c hv s6 s8 s2 s3 s5
    rw [loopS_succ, g31_L4]
    simp only [s6, s8, cFieldAddr_ptr, Nat.zero_add, cLoad1_ptr, ld1_eq, cell?_of g6, List.getElem?_cons_zero, ob_some, hv, asLK_slc, cLenS_eq, cBin_lss, Int.lt_irrefl, decide_false, cIf_eq, Bool.false_eq_true, if_false, loopK_exit]
    exact kx _ (by simp [updL_cons, s2]) (by simp [updL_cons, s3]) (by simp [updL_cons, s5])
  rcases He with ⟨rfl, hve, _⟩ | ⟨cls, to, G, vc, fc, rfl, hve, hG, hc, _⟩
  · exact out σ (lf + 1) none 0 hve q6 q8 rfl rfl rfl
  · rcases Hg with ⟨hh, _⟩ | ⟨cls', to', G', wc, fc', hh, hwe, hG', hc', _⟩
    · cases hh
    · cases hh
      have hcl := hes (cls, to) (by simp)
      simp only at hcl
      obtain ⟨a1, c1, hv1, _⟩ := hc.il
      obtain ⟨a2, c2, hv2, _⟩ := hc'.il
      have e64 := ev64 X n hc.il hc'.il (by omega) (by omega)
      have x0 : idx? 0 1 = some 0 := idx?_nat (q := 0) (by omega)
      rw [loopS_succ, g31_L4]
      simp only [q6, q7, q8, cFieldAddr_ptr, Nat.zero_add, cLoad1_ptr, ld1_eq, cell?_of g6, cell?_of g7, List.getElem?_cons_zero, List.getElem?_cons_succ, ob_some, hve, hwe, asLK_slc, cLenS_eq, cBin_lss, cIf_eq, rety_eq, dr_ret, cIdxS_slice, List.length_cons, List.length_nil, show decide ((0 : Int) < ((0 + 1 : Nat) : Int)) = true from rfl, if_true, x0, Nat.zero_mul, cell?_of hG, cell?_of hG', asLK_int, cBin_neq, decide_true, Bool.not_true, gd_false, hv1, hv2]
      rw [← hv1, ← hv2]
      rw [cCall_ret e64]
      simp only [asRetL_one, asTIL_one, asLK_bool, rety_eq, dr_ret, cUn_not, Bool.not_true, cPick_eq, Bool.false_eq_true, if_false]
      rw [c5 _ _ _ _ _ 0 (by simp [updL_cons]) (by simp [updL_cons, q8]) (by omega)]
      simp only [loopK_normal]
      refine out _ lf _ _ hve ?_ ?_ ?_ ?_ ?_
      all_goals simp [updL_cons, q6]
end Go.Amb
end

section
/- Automata compared: equal ones are the same. -/
set_option linter.unusedVariables false
set_option linter.unusedSimpArgs false
namespace Go.Amb
open Go.Proofs

theorem totF_le {s : List NS} {st : NS} (h : st ∈ s) : st.free.length ≤ totF s := by
  obtain ⟨i, hi⟩ := List.mem_iff_getElem?.1 h
  exact totF_at hi

theorem c3 (call : Call) (lf : Nat) (σ : St) (h : AHeap) (k : KS) (q : σ 61 = .bool false) : g31_C3 call lf σ h k = loopS (g31_L4 call lf) lf (updL σ [(8, I 0)]) h (hBlk 2 (hBlk 1 (hSeq (fun σ h => g31_C6 call lf σ h k) k))) := by
  rw [g31_C3]
  simp only [q, cIf_eq, Bool.false_eq_true, if_false]
theorem ev31_loop (X : Call) (n lf : Nat) (hlf : 3 ≤ lf) {h0 : AHeap} {b2 b3 : Nat} {v w : Value} {r2 r3 : List Value} {s : List NS} {fs gs : List Nat} (hn : tot s + 70 ≤ n) (ht : tot s ≤ 1000000) (hed : EdOk s)
    (g2 : h0.get b2 = .cells (v :: r2) 67 none false) (g3 : h0.get b3 = .cells (w :: r3) 67 none false) (l2 : b2 < h0.next) (l3 : b3 < h0.next) (Hv : StsRep h0 v s fs) (Hw : StsRep h0 w s gs) (lv : ∀ j ∈ fs, j < h0.next) (lw : ∀ j ∈ gs, j < h0.next) (K : KS) (R : AHeap → Option Ans)
    (kx : ∀ σ' h', (∀ j, j < h0.next → h'.get j = h0.get j) → h0.next ≤ h'.next → K (.exit 0) σ' h' = R h') :
    ∀ (m i f : Nat) (h : AHeap) (σ : St), s.length - i = m → i ≤ s.length → m < f → (∀ j, j < h0.next → h.get j = h0.get j) → h0.next ≤ h.next → σ 2 = P0 b2 0 → σ 3 = P0 b3 0 → σ 5 = I i →
    ∃ h', (∀ j, j < h0.next → h'.get j = h0.get j) ∧ h0.next ≤ h'.next ∧ loopS (g31_L2 (evF EK X (n + 1)) lf) f σ h K = R h' := by
  have hls : s.length ≤ 1000000 := by unfold tot at ht; omega
  obtain ⟨va, vc, hv⟩ := Hv.slc
  obtain ⟨wa, wc, hw⟩ := Hw.slc
  intro m
  induction m with
  | zero =>
    intro i f h σ hm hi hf kp nx q2 q3 q5
    obtain ⟨f, rfl⟩ : ∃ q, f = q + 1 := ⟨f - 1, by omega⟩
    have hil : i = s.length := by omega
    subst hil
    have g2' : h.get b2 = .cells (v :: r2) 67 none false := by rw [kp _ l2]; exact g2
    refine ⟨h, kp, nx, ?_⟩
    rw [loopS_succ, g31_L2]
    simp only [q2, q5, cFieldAddr_ptr, Nat.zero_add, cLoad1_ptr, ld1_eq, cell?_of g2', List.getElem?_cons_zero, ob_some, hv, asLK_slc, cLenS_eq, cBin_lss, Int.lt_irrefl, decide_false, cIf_eq, Bool.false_eq_true, if_false, loopK_exit]
    exact kx _ _ kp nx
  | succ m ih =>
    intro i f h σ hm hi hf kp nx q2 q3 q5
    obtain ⟨f, rfl⟩ : ∃ q, f = q + 1 := ⟨f - 1, by omega⟩
    have hil : i < s.length := by omega
    have hget : s[i]? = some s[i] := List.getElem?_eq_getElem hil
    have hmem : s[i] ∈ s := List.getElem_mem hil
    generalize s[i] = st at hget hmem
    obtain ⟨S, ve, vf, A⟩ := Hv.at lv hget
    obtain ⟨T, we, wf, B⟩ := Hw.at lw hget
    have hvS := A.v
    have hwT := B.v
    subst hvS hwT
    have hfr := totF_le hmem
    have hx : idx? (i : Int) s.length = some i := idx?_nat hil
    have hlt : ((i : Int) < (s.length : Int)) := by omega
    -- the heaps on the way
    have kp1 : ∀ j, j < h0.next → (h.new (.cells [nilS, nilS] 102 none false)).get j = h0.get j := fun j hj => by rw [get_new_lt _ (by omega)]; exact kp j hj
    have kp2 : ∀ j, j < h0.next → ((h.new (.cells [nilS, nilS] 102 none false)).new (.cells [nilS, nilS] 102 none false)).get j = h0.get j := fun j hj => by rw [get_new_lt _ (by simp; omega)]; exact kp1 j hj
    have gn1 : (h.new (.cells [nilS, nilS] 102 none false)).get h.next = .cells [nilS, nilS] 102 none false := get_new_self _ _
    have gn2 : ((h.new (.cells [nilS, nilS] 102 none false)).new (.cells [nilS, nilS] 102 none false)).get h.next = .cells [nilS, nilS] 102 none false := by rw [get_new_lt _ (by simp)]; exact gn1
    have gm2 : ((h.new (.cells [nilS, nilS] 102 none false)).new (.cells [nilS, nilS] 102 none false)).get (h.next + 1) = .cells [nilS, nilS] 102 none false := get_new_self (h.new (.cells [nilS, nilS] 102 none false)) _
    have hne : h.next + 1 ≠ h.next := by omega
    generalize hh1 : h.new (.cells [nilS, nilS] 102 none false) = h1 at *
    have hn1 : h1.next = h.next + 1 := by rw [← hh1]; rfl
    generalize hh2 : h1.new (.cells [nilS, nilS] 102 none false) = h2 at *
    have hn2 : h2.next = h.next + 2 := by rw [← hh2]; show h1.next + 1 = _; omega
    have kp3 : ∀ j, j < h0.next → (h2.set h.next (.cells [ve, vf] 102 none false)).get j = h0.get j := fun j hj => by rw [AHeap.get_set_ne _ _ (by omega)]; exact kp2 j hj
    have gm3 : (h2.set h.next (.cells [ve, vf] 102 none false)).get (h.next + 1) = .cells [nilS, nilS] 102 none false := by rw [AHeap.get_set_ne _ _ hne]; exact gm2
    have gn3 : (h2.set h.next (.cells [ve, vf] 102 none false)).get h.next = .cells [ve, vf] 102 none false := AHeap.get_set_same _ _ _
    have hn3 : (h2.set h.next (.cells [ve, vf] 102 none false)).next = h.next + 2 := hn2
    generalize hh3 : h2.set h.next (.cells [ve, vf] 102 none false) = h3 at *
    have kp4 : ∀ j, j < h0.next → (h3.set (h.next + 1) (.cells [we, wf] 102 none false)).get j = h0.get j := fun j hj => by rw [AHeap.get_set_ne _ _ (by omega)]; exact kp3 j hj
    have gm4 : (h3.set (h.next + 1) (.cells [we, wf] 102 none false)).get (h.next + 1) = .cells [we, wf] 102 none false := AHeap.get_set_same _ _ _
    have gn4 : (h3.set (h.next + 1) (.cells [we, wf] 102 none false)).get h.next = .cells [ve, vf] 102 none false := by rw [AHeap.get_set_ne _ _ (by omega)]; exact gn3
    have hn4 : (h3.set (h.next + 1) (.cells [we, wf] 102 none false)).next = h.next + 2 := hn3
    generalize hh4 : h3.set (h.next + 1) (.cells [we, wf] 102 none false) = h4 at *
    -- what is read
    have rd : ∀ H : AHeap, (∀ j, j < h0.next → H.get j = h0.get j) → h0.next ≤ H.next → H.cell? b2 0 = some (S0 S 0 s.length s.length) ∧ H.cell? b3 0 = some (S0 T 0 s.length s.length) ∧ StAt H (S0 S 0 s.length s.length) s.length i st S ve vf ∧ StAt H (S0 T 0 s.length s.length) s.length i st T we wf := fun H hk hx =>
      ⟨by rw [cell?_keep (hk _ l2), cell?_of g2]; rfl, by rw [cell?_keep (hk _ l3), cell?_of g3]; rfl, A.frame hx hk, B.frame hx hk⟩
    obtain ⟨a0, b0, A0, B0⟩ := rd h kp nx
    obtain ⟨a1, b1, A1, B1⟩ := rd h1 kp1 (by omega)
    obtain ⟨a2, b2', A2, B2⟩ := rd h2 kp2 (by omega)
    obtain ⟨a3, b3', A3, B3⟩ := rd h3 kp3 (by omega)
    obtain ⟨a4, b4, A4, B4⟩ := rd h4 kp4 (by omega)
    obtain ⟨⟨ea, ec, hve⟩, _⟩ := A.se
    obtain ⟨⟨fa, fc, hvf⟩, _⟩ := A.sf
    obtain ⟨⟨ea', ec', hwe⟩, _⟩ := B.se
    obtain ⟨⟨fa', fc', hwf⟩, _⟩ := B.sf
    have s3 : ∀ F : AHeap → Option Ans, cStore 2 (P0 h.next 0) (.agg [ve, vf].toArray) h2 F = F h3 := fun F => by rw [st2 gn2 ⟨_, _, _, hve⟩ ⟨_, _, _, hvf⟩, hh3]
    have s4 : ∀ F : AHeap → Option Ans, cStore 2 (P0 (h.next + 1) 0) (.agg [we, wf].toArray) h3 F = F h4 := fun F => by rw [st2 gm3 ⟨_, _, _, hwe⟩ ⟨_, _, _, hwf⟩, hh4]
    rw [loopS_succ, g31_L2]
    simp only [q2, q3, q5, cFieldAddr_ptr, Nat.zero_add, cLoad1_ptr, ld1_eq, a0, b0, ob_some, asLK_slc, cLenS_eq, cBin_lss, hlt, decide_true, cIf_eq, if_true, rety_eq, dr_ret, cIdxS_slice, hx, cLoadA_ptr, A0.ld, B0.ld, cNew_eq, hh1, hn1, hh2,
      hk_eq (hk2 gn1), hk_eq (hk2 gn2), hk_eq (hk2 gm2), A1.ld, B1.ld, A2.ld, B2.ld, A3.ld, B3.ld, a1, b1, a2, b2', a3, b3', rk_ret A.eq2, rk_ret B.eq2, rk_ret (eqV_int _), rk_ret (eqV_ptr _ _), rk_ret (eqV_S0 _ _ _ _), s3, s4]
    have e64 := ev64 X n (h := h4) (by obtain ⟨ff, q, _⟩ := A4.f; exact q.il) (by obtain ⟨ff, q, _⟩ := B4.f; exact q.il) (by unfold tot at hn; omega) (by unfold tot at ht; omega)
    simp only [cell?_of gn4, cell?_of gm4, List.getElem?_cons_zero, List.getElem?_cons_succ, ob_some, hvf, hwf, asLK_slc]
    rw [← hvf, ← hwf, cCall_ret e64]
    simp only [asRetL_one, asTIL_one, asLK_bool, cUn_not, Bool.not_true, gd_false, cell?_of gn4, cell?_of gm4, List.getElem?_cons_zero, ob_some, hve, hwe, asLK_slc, cLenS_eq, cBin_neq, decide_true, cPick_eq, Bool.false_eq_true, if_false]
    rw [c3 _ _ _ _ _ (by simp [updL_cons])]
    obtain ⟨fe, RA, _⟩ := A4.e
    obtain ⟨ge, RB, _⟩ := B4.e
    refine ev31_edges X n lf hlf (by omega) (h := h4) (b6 := h.next) (b7 := h.next + 1) gn4 gm4 RA RB (hed st hmem) _ (fun E => ∃ h', (∀ j, j < h0.next → h'.get j = h0.get j) ∧ h0.next ≤ h'.next ∧ E = R h') _ ?_ ?_ ?_ ?_
    · simp [updL_cons]
    · simp [updL_cons]
    · simp [updL_cons]
    · intro σ' p2 p3 p5
      simp only [updL_cons, updL_nil, ↓reduceIte, Nat.reduceEqDiff] at p2 p3 p5
      simp only [hBlk_same, hBlk_normal, hSeq_normal, g31_C6, p5, q5]
      rw [cBin_add _ _ _ (by omega) (by omega)]
      simp only [loopK_normal]
      refine ih (i + 1) f h4 _ (by omega) (by omega) (by omega) kp4 (by omega) ?_ ?_ ?_
      all_goals simp [updL_cons, p2, p3, q2, q3]
theorem ex3 {E : Option Ans} {R : AHeap → Option Ans} {A B C : AHeap → Prop} (x : ∃ h', A h' ∧ B h' ∧ E = R h') (y : ∀ h', A h' → B h' → C h') : ∃ h', E = R h' ∧ C h' := by
  obtain ⟨h', a, b, c⟩ := x
  exact ⟨h', c, y h' a b⟩
theorem ev31 (X : Call) (n : Nat) {h : AHeap} {x y : Value} {r : Nat × Nat × List NS} {e1 e2 : Nat} {fs gs : List Nat} (Hx : AutAt e1 h x r fs) (Hy : AutAt e2 h y r gs) (ok : AutOk r) (hn : tot r.2.2 + 80 ≤ n) :
    ∃ h', evF EK X (n + 1) 31 [x, y] h = some (.ret (.bool true) h') ∧ h.next ≤ h'.next ∧ ∀ j, j < h.next → h'.get j = h.get j := by
  obtain ⟨n, rfl⟩ : ∃ q, n = q + 1 := ⟨n - 1, by omega⟩
  obtain ⟨v, rfl, Sv, _, lv⟩ := Hx
  obtain ⟨w, rfl, Sw, _, lw⟩ := Hy
  obtain ⟨va, vc, hv⟩ := Sv.slc
  obtain ⟨wa, wc, hw⟩ := Sw.slc
  have kp : ∀ j, j < h.next → ((h.new (.cells [v, I r.1, I r.2.1] 67 none false)).new (.cells [w, I r.1, I r.2.1] 67 none false)).get j = h.get j := fun j hj => by rw [get_new_lt _ (by simp; omega), get_new_lt _ hj]
  have g2 : ((h.new (.cells [v, I r.1, I r.2.1] 67 none false)).new (.cells [w, I r.1, I r.2.1] 67 none false)).get h.next = .cells [v, I r.1, I r.2.1] 67 none false := by rw [get_new_lt _ (by simp)]; exact get_new_self _ _
  have g3 : ((h.new (.cells [v, I r.1, I r.2.1] 67 none false)).new (.cells [w, I r.1, I r.2.1] 67 none false)).get (h.next + 1) = .cells [w, I r.1, I r.2.1] 67 none false := get_new_self (h.new _) _
  have hn0 : ((h.new (.cells [v, I r.1, I r.2.1] 67 none false)).new (.cells [w, I r.1, I r.2.1] 67 none false)).next = h.next + 2 := rfl
  have hn1 : (h.new (.cells [v, I r.1, I r.2.1] 67 none false)).next = h.next + 1 := rfl
  rw [evF_B _ _ _ _ _ _ (by kernel_rfl), g31_eq, g31]
  simp only [st0_zero, st0_succ, cNew_eq, Value.cells, List.toList_toArray, hn1]
  generalize (h.new (.cells [v, I r.1, I r.2.1] 67 none false)).new (.cells [w, I r.1, I r.2.1] 67 none false) = h0 at *
  simp only [cFieldAddr_ptr, Nat.zero_add, cLoad1_ptr, ld1_eq, cell?_of g2, cell?_of g3, List.getElem?_cons_zero, List.getElem?_cons_succ, ob_some]
  rw [hv, hw]
  simp only [asLK_slc, asLK_int, cLenS_eq, cBin_neq, decide_true, Bool.not_true, gd_false, cPick_eq, Bool.false_eq_true, if_false]
  rw [g31_C1]
  simp only [updL_cons, updL_nil, ↓reduceIte, Nat.reduceEqDiff, cIf_eq, Bool.false_eq_true, if_false]
  have Sv0 : StsRep h0 v r.2.2 fs := Sv.frame fun i hi => kp i (lv i hi).2
  have Sw0 : StsRep h0 w r.2.2 gs := Sw.frame fun i hi => kp i (lw i hi).2
  have hlen : r.2.2.length ≤ n := by unfold tot at hn; omega
  refine ex3 (ev31_loop X n (n + 1) (by omega) (b2 := h.next) (b3 := h.next + 1) (by omega) ok.tt ok.ed g2 g3 (by omega) (by omega) Sv0 Sw0 (fun j hj => by have := (lv j hj).2; omega) (fun j hj => by have := (lw j hj).2; omega) _ (fun h' => some (.ret (.bool true) h'))
    (fun σ' h' _ _ => by simp [hBlk_same, hSeq_normal, g31_C7, updL_cons]) r.2.2.length 0 (n + 1) h0 _ (by omega) (by omega) (by omega) (fun _ _ => rfl) (Nat.le_refl _) ?_ ?_ ?_) fun h' k' n' => ⟨by omega, fun j hj => by rw [k' j (by omega), kp j hj]⟩
  all_goals simp [updL_cons]

end Go.Amb
end

section
/- An automaton spoilt: its own lists written over. -/
set_option linter.unusedVariables false
set_option linter.unusedSimpArgs false
namespace Go.Amb
open Go.Proofs

def Sp1 (o o' : AObj) : Prop := o' = o ∨ (∃ l l' opn, o = .cells (ints l) 3 opn false ∧ o' = .cells (ints l') 3 opn false ∧ l'.length = l.length) ∨ ∃ vc to to', o = .cells [vc, I to] 106 none false ∧ o' = .cells [vc, I to'] 106 none false
/-- Only the footprint's lists are turned, and only their numbers. -/
structure Sp (fs : List Nat) (h0 h : AHeap) : Prop where
  one : ∀ j, j < h0.next → Sp1 (h0.get j) (h.get j)
  keep : ∀ j, j < h0.next → j ∉ fs → h.get j = h0.get j
  next : h0.next ≤ h.next
theorem Sp.refl (fs : List Nat) (h : AHeap) : Sp fs h h := ⟨fun _ _ => .inl rfl, fun _ _ _ => rfl, Nat.le_refl _⟩
theorem Sp.new {fs : List Nat} {h0 h : AHeap} (H : Sp fs h0 h) (o : AObj) : Sp fs h0 (h.new o) := by
  have := H.next
  exact ⟨fun j hj => by rw [get_new_lt _ (by omega)]; exact H.one j hj, fun j hj hf => by rw [get_new_lt _ (by omega)]; exact H.keep j hj hf, by simp; omega⟩
theorem Sp.over {fs : List Nat} {h0 h : AHeap} (H : Sp fs h0 h) {b : Nat} (hb : h0.next ≤ b) (o : AObj) : Sp fs h0 (h.set b o) :=
  ⟨fun j hj => by rw [AHeap.get_set_ne _ _ (by omega)]; exact H.one j hj, fun j hj hf => by rw [AHeap.get_set_ne _ _ (by omega)]; exact H.keep j hj hf, H.next⟩
theorem ints_inj {l l' : List Int} (h : ints l = ints l') : l.length = l'.length := by
  have := congrArg List.length h
  simpa using this
theorem Sp.nums {fs : List Nat} {h0 h : AHeap} (H : Sp fs h0 h) {F : Nat} {l : List Int} {opn : Option Nat} (hF : F < h0.next) (hg : h0.get F = .cells (ints l) 3 opn false) : ∃ l', h.get F = .cells (ints l') 3 opn false ∧ l'.length = l.length := by
  rcases H.one F hF with e | ⟨a, b, c, e1, e2, e3⟩ | ⟨a, b, c, e1, e2⟩
  · exact ⟨l, by rw [e]; exact hg, rfl⟩
  · rw [hg] at e1
    have h1 := (AObj.cells.inj e1)
    refine ⟨b, by rw [e2, h1.2.2.1], ?_⟩
    have := ints_inj h1.1
    omega
  · rw [hg] at e1
    have h1 := (AObj.cells.inj e1).2.1
    exact absurd h1 (by decide)
theorem Sp.edge {fs : List Nat} {h0 h : AHeap} (H : Sp fs h0 h) {G : Nat} {vc : Value} {to : Int} (hG : G < h0.next) (hg : h0.get G = .cells [vc, I to] 106 none false) : ∃ to', h.get G = .cells [vc, I to'] 106 none false := by
  rcases H.one G hG with e | ⟨a, b, c, e1, e2, e3⟩ | ⟨a, b, c, e1, e2⟩
  · exact ⟨to, by rw [e]; exact hg⟩
  · rw [hg] at e1
    have h1 := (AObj.cells.inj e1).2.1
    exact absurd h1 (by decide)
  · rw [hg] at e1
    have h1 := (AObj.cells.inj e1).1
    exact ⟨c, by rw [e2]; simp at h1; rw [h1.1]⟩
theorem Sp.same {fs : List Nat} {h0 h : AHeap} (H : Sp fs h0 h) {S : Nat} {cs : List Value} (hS : S < h0.next) (hg : h0.get S = .cells cs 102 (some 2) false) : h.get S = .cells cs 102 (some 2) false := by
  rcases H.one S hS with e | ⟨a, b, c, e1, e2, e3⟩ | ⟨a, b, c, e1, e2⟩
  · rw [e]; exact hg
  · rw [hg] at e1
    have h1 := (AObj.cells.inj e1).2.1
    exact absurd h1 (by decide)
  · rw [hg] at e1
    have h1 := (AObj.cells.inj e1).2.1
    exact absurd h1 (by decide)
/-- A list that can be written over. -/
def WL (fs : List Nat) (h0 : AHeap) (v : Value) (k : Nat) : Prop := (k = 0 ∧ v = nilS) ∨ ∃ F l opn, v = S0 F 0 k k ∧ l.length = k ∧ h0.get F = .cells (ints l) 3 opn false ∧ F ∈ fs ∧ F < h0.next
theorem WL.slc {fs : List Nat} {h0 : AHeap} {v : Value} {k : Nat} (H : WL fs h0 v k) : ∃ a c, v = .slice a k c := by
  rcases H with ⟨rfl, rfl⟩ | ⟨F, l, o, rfl, _⟩ <;> exact ⟨_, _, rfl⟩
theorem WL.free {fs ff : List Nat} {h0 : AHeap} {v : Value} {l : List Int} (H : FreeRep h0 v l ff) (k : ∀ j ∈ ff, j ∈ fs ∧ j < h0.next) : WL fs h0 v l.length := by
  rcases H with ⟨rfl, rfl, _⟩ | ⟨F, _, rfl, hg, rfl⟩
  · exact .inl ⟨rfl, rfl⟩
  · exact .inr ⟨F, l, _, rfl, rfl, hg, (k F (by simp)).1, (k F (by simp)).2⟩
theorem WL.cls {fs ff : List Nat} {h0 : AHeap} {v : Value} {l : List Int} (H : ClsRep h0 v l ff) (k : ∀ j ∈ ff, j ∈ fs ∧ j < h0.next) : WL fs h0 v l.length := by
  rcases H with ⟨rfl, rfl, _⟩ | ⟨F, o, rfl, hg, rfl⟩
  · exact .inl ⟨rfl, rfl⟩
  · exact .inr ⟨F, l, o, rfl, rfl, hg, (k F (by simp)).1, (k F (by simp)).2⟩
theorem set_ints (l : List Int) (i : Nat) (x : Int) : (ints l).set i (I x) = ints (l.set i x) := by simp [ints, List.map_set]
theorem WL.store {fs : List Nat} {h0 h : AHeap} {v : Value} {k i : Nat} (W : WL fs h0 v k) (H : Sp fs h0 h) (hi : i < k) :
    ∃ F h', v = S0 F 0 k k ∧ F < h0.next ∧ (∀ K : AHeap → Option Ans, cStore 1 (P0 F i) (I (-7)) h K = K h') ∧ Sp fs h0 h' ∧ (∀ j, h.get j ≠ h.get F → h'.get j = h.get j) ∧ (∀ j, j ≠ F → h'.get j = h.get j) ∧ h'.next = h.next := by
  rcases W with ⟨rfl, _⟩ | ⟨F, l, opn, rfl, hl, hg, hf, hF⟩
  · omega
  · obtain ⟨l', hg', hl'⟩ := H.nums hF hg
    have hst : h.st F i [I (-7)] = some (h.set F (.cells (ints (l'.set i (-7))) 3 opn false)) := by
      rw [st_of hg' (by simp; omega) rfl, putL_one _ _ _ (by simp; omega), set_ints]
    refine ⟨F, h.set F (.cells (ints (l'.set i (-7))) 3 opn false), rfl, hF, fun K => by rw [st1I, hst, ob_some], ⟨fun j hj => ?_, fun j hj hjf => ?_, H.next⟩, fun j hj => ?_, fun j hj => AHeap.get_set_ne _ _ hj, rfl⟩
    · by_cases e : j = F
      · subst e
        rw [AHeap.get_set_same]
        exact .inr (.inl ⟨l, _, opn, hg, rfl, by simp; omega⟩)
      · rw [AHeap.get_set_ne _ _ e]; exact H.one j hj
    · rw [AHeap.get_set_ne _ _ (fun e => hjf (by rw [e]; exact hf))]; exact H.keep j hj hjf
    · by_cases e : j = F
      · subst e; exact absurd rfl hj
      · exact AHeap.get_set_ne _ _ e

theorem ev32_L7 (call : Call) (lf : Nat) {fs : List Nat} {h0 : AHeap} {b3 k : Nat} {ve vf : Value} (hb : h0.next ≤ b3) (W : WL fs h0 vf k) (hk : k ≤ 1000000) (s1 s2 : Value) (K : KS) (P : Option Ans → Prop)
    (kx : ∀ σ' h', Sp fs h0 h' → σ' 1 = s1 → σ' 2 = s2 → P (K (.exit 6) σ' h')) :
    ∀ (m i f : Nat) (h : AHeap) (σ : St), k - i = m → i ≤ k → m < f → Sp fs h0 h → h.get b3 = .cells [ve, vf] 102 none false → σ 1 = s1 → σ 2 = s2 → σ 3 = P0 b3 0 → σ 6 = I i → P (loopS (g32_L7 call lf) f σ h K) := by
  obtain ⟨va, vc, hv⟩ := W.slc
  intro m
  induction m with
  | zero =>
    intro i f h σ hm hi hf H g q1 q2 q3 q6
    obtain ⟨f, rfl⟩ : ∃ q, f = q + 1 := ⟨f - 1, by omega⟩
    have hil : i = k := by omega
    subst hil
    rw [loopS_succ, g32_L7]
    simp only [q3, q6, cFieldAddr_ptr, Nat.zero_add, cLoad1_ptr, ld1_eq, cell?_of g, List.getElem?_cons_zero, List.getElem?_cons_succ, ob_some, hv, asLK_slc, cLenS_eq, cBin_lss, Int.lt_irrefl, decide_false, cIf_eq, Bool.false_eq_true, if_false, loopK_exit]
    exact kx _ _ H (by simp [updL_cons, q1]) (by simp [updL_cons, q2])
  | succ m ih =>
    intro i f h σ hm hi hf H g q1 q2 q3 q6
    obtain ⟨f, rfl⟩ : ∃ q, f = q + 1 := ⟨f - 1, by omega⟩
    obtain ⟨F, h', hF, lF, e, H', _, kp, _⟩ := W.store H (i := i) (by omega)
    subst hF
    have hlt : ((i : Int) < (k : Int)) := by omega
    have hx : idx? (i : Int) k = some i := idx?_nat (by omega)
    rw [loopS_succ, g32_L7]
    simp only [q3, q6, cFieldAddr_ptr, Nat.zero_add, cLoad1_ptr, ld1_eq, cell?_of g, List.getElem?_cons_zero, List.getElem?_cons_succ, ob_some, asLK_slc, cLenS_eq, cBin_lss, hlt, decide_true, cIf_eq, if_true, cIdxS_slice, hx, Nat.mul_one, e]
    rw [cBin_add _ _ _ (by omega) (by omega)]
    simp only [loopK_normal]
    refine ih (i + 1) f h' _ (by omega) (by omega) (by omega) H' (by rw [kp _ (by omega)]; exact g) ?_ ?_ ?_ ?_
    all_goals simp [updL_cons, q1, q2, q3]
theorem ev32_L3 (call : Call) (lf : Nat) {fs : List Nat} {h0 : AHeap} {b3 k G : Nat} {vc vf : Value} {to : Int} (hb : h0.next ≤ b3) (W : WL fs h0 vc k) (hk : k ≤ 1000000) (hG : G < h0.next) (gG : h0.get G = .cells [vc, I to] 106 none false) (s1 s2 : Value) (K : KS) (P : Option Ans → Prop)
    (kx : ∀ σ' h', Sp fs h0 h' → h'.get b3 = .cells [S0 G 0 1 1, vf] 102 none false → σ' 1 = s1 → σ' 2 = s2 → σ' 3 = P0 b3 0 → σ' 4 = I 0 → P (K (.exit 4) σ' h')) :
    ∀ (m i f : Nat) (h : AHeap) (σ : St), k - i = m → i ≤ k → m < f → Sp fs h0 h → h.get b3 = .cells [S0 G 0 1 1, vf] 102 none false → σ 1 = s1 → σ 2 = s2 → σ 3 = P0 b3 0 → σ 4 = I 0 → σ 5 = I i → P (loopS (g32_L3 call lf) f σ h K) := by
  obtain ⟨va, c, hv⟩ := W.slc
  have x0 : idx? 0 1 = some 0 := idx?_nat (q := 0) (by omega)
  intro m
  induction m with
  | zero =>
    intro i f h σ hm hi hf H g q1 q2 q3 q4 q5
    obtain ⟨f, rfl⟩ : ∃ q, f = q + 1 := ⟨f - 1, by omega⟩
    have hil : i = k := by omega
    subst hil
    obtain ⟨to', gG'⟩ := H.edge hG gG
    rw [loopS_succ, g32_L3]
    simp only [q3, q4, q5, cFieldAddr_ptr, Nat.zero_add, cLoad1_ptr, ld1_eq, cell?_of g, cell?_of gG', List.getElem?_cons_zero, List.getElem?_cons_succ, ob_some, asLK_slc, cIdxS_slice, x0, Nat.zero_mul, hv, cLenS_eq, cBin_lss, Int.lt_irrefl, decide_false, cIf_eq, Bool.false_eq_true, if_false, loopK_exit]
    exact kx _ _ H g (by simp [updL_cons, q1]) (by simp [updL_cons, q2]) (by simp [updL_cons, q3]) (by simp [updL_cons, q4])
  | succ m ih =>
    intro i f h σ hm hi hf H g q1 q2 q3 q4 q5
    obtain ⟨f, rfl⟩ : ∃ q, f = q + 1 := ⟨f - 1, by omega⟩
    obtain ⟨to', gG'⟩ := H.edge hG gG
    obtain ⟨F, h', hF, lF, e, H', _, kp, _⟩ := W.store H (i := i) (by omega)
    subst hF
    have hlt : ((i : Int) < (k : Int)) := by omega
    have hx : idx? (i : Int) k = some i := idx?_nat (by omega)
    rw [loopS_succ, g32_L3]
    simp only [q3, q4, q5, cFieldAddr_ptr, Nat.zero_add, cLoad1_ptr, ld1_eq, cell?_of g, cell?_of gG', List.getElem?_cons_zero, List.getElem?_cons_succ, ob_some, asLK_slc, x0, Nat.zero_mul, cLenS_eq, cBin_lss, hlt, decide_true, cIf_eq, if_true, cIdxS_slice, hx, Nat.mul_one, e]
    rw [cBin_add _ _ _ (by omega) (by omega)]
    simp only [loopK_normal]
    refine ih (i + 1) f h' _ (by omega) (by omega) (by omega) H' (by rw [kp _ (by omega)]; exact g) ?_ ?_ ?_ ?_ ?_
    all_goals simp [updL_cons, q1, q2, q3, q4]
theorem c6' (call : Call) (lf : Nat) (σ : St) (h : AHeap) (k : KS) : g32_C6 call lf σ h k = loopS (g32_L7 call lf) lf (updL σ [(6, I 0)]) h (hBlk 6 (hBlk 1 (hSeq (fun σ h => g32_C8 call lf σ h k) k))) := by rw [g32_C6]
/-- A state's edges, then its list. -/
theorem ev32_L2 (call : Call) (lf : Nat) (hlf : 3 ≤ lf) {fs fe ff : List Nat} {h0 : AHeap} {b3 : Nat} {ve vf : Value} {st : NS} (hb : h0.next ≤ b3) (He : EdgesRep h0 ve st.edges fe) (Hf : FreeRep h0 vf st.free ff) (ke : ∀ j ∈ fe, j ∈ fs ∧ j < h0.next) (kf : ∀ j ∈ ff, j ∈ fs ∧ j < h0.next)
    (hes : ∀ ed ∈ st.edges, ed.1.length ≤ 64) (h64 : 70 ≤ lf) (s1 s2 : Value) (K : KS) (P : Option Ans → Prop)
    (kx : ∀ σ' h', Sp fs h0 h' → h'.get b3 = .cells [ve, vf] 102 none false → σ' 1 = s1 → σ' 2 = s2 → σ' 3 = P0 b3 0 → P (K (.exit 2) σ' h'))
    (h : AHeap) (σ : St) (H : Sp fs h0 h) (g : h.get b3 = .cells [ve, vf] 102 none false) (q1 : σ 1 = s1) (q2 : σ 2 = s2) (q3 : σ 3 = P0 b3 0) (q4 : σ 4 = I 0) : P (loopS (g32_L2 call lf) lf σ h K) := by
  obtain ⟨lf, rfl⟩ : ∃ q, lf = q + 1 + 1 := ⟨lf - 2, by omega⟩
  have out : ∀ (σ' : St) (f : Nat) (a : Option Addr) (c : Nat) (h' : AHeap), ve = .slice a st.edges.length c → Sp fs h0 h' → h'.get b3 = .cells [ve, vf] 102 none false → σ' 1 = s1 → σ' 2 = s2 → σ' 3 = P0 b3 0 → σ' 4 = I st.edges.length → P (loopS (g32_L2 call (lf + 1 + 1)) (f + 1) σ' h' K) := by
    intro σ' f a c h' hv H' g' s1 s2 s3 s4
    rw [loopS_succ, g32_L2]
    simp only [s3, s4, cFieldAddr_ptr, Nat.zero_add, cLoad1_ptr, ld1_eq, cell?_of g', List.getElem?_cons_zero, ob_some]
    rw [hv]
    simp only [asLK_slc, cLenS_eq, cBin_lss, Int.lt_irrefl, decide_false, cIf_eq, Bool.false_eq_true, if_false, loopK_exit]
    exact kx _ _ H' g' (by simp [updL_cons, s1]) (by simp [updL_cons, s2]) (by simp [updL_cons, s3])
  rcases He with ⟨hes0, hve, _⟩ | ⟨cls, to, G, vc, fc, hes1, hve, hG, hc, hfe⟩
  · rw [hes0] at out
    exact out σ (lf + 1) none 0 h hve H g q1 q2 q3 q4
  · rw [hes1] at out hes
    have hcl := hes (cls, to) (by simp)
    simp only at hcl
    subst hve hfe
    have hGl := (ke G (by simp)).2
    have W := WL.cls (fs := fs) hc (fun j hj => ke j (by simp [hj]))
    have x0 : idx? 0 1 = some 0 := idx?_nat (q := 0) (by omega)
    rw [loopS_succ, g32_L2]
    simp only [q3, q4, cFieldAddr_ptr, Nat.zero_add, cLoad1_ptr, ld1_eq, cell?_of g, List.getElem?_cons_zero, ob_some, asLK_slc, cLenS_eq, cBin_lss, cIf_eq, show decide ((0 : Int) < ((1 : Nat) : Int)) = true from rfl, if_true]
    refine ev32_L3 call (lf + 1 + 1) hb W (by omega) hGl hG s1 s2 _ P ?_ cls.length 0 (lf + 1 + 1) h _ (by omega) (by omega) (by omega) H g ?_ ?_ ?_ ?_ ?_
    · intro σ' h' H' g' p1 p2 p3 p4
      obtain ⟨to', gG'⟩ := H'.edge hGl hG
      have hst : h'.st G 1 [I (-7)] = some (h'.set G (.cells [vc, I (-7)] 106 none false)) := by
        rw [st_of gG' (by simp) rfl]; rfl
      have hne : b3 ≠ G := by omega
      simp only [hBlk_same, hSeq_normal, g32_C4, p3, p4, cFieldAddr_ptr, Nat.zero_add, cLoad1_ptr, ld1_eq, cell?_of g', List.getElem?_cons_zero, ob_some, asLK_slc, cIdxS_slice, x0, Nat.zero_mul, st1I, hst]
      rw [cBin_add _ _ _ (by omega) (by omega)]
      simp only [loopK_normal]
      refine out _ lf _ _ (h'.set G (.cells [vc, I (-7)] 106 none false)) rfl ⟨fun j hj => ?_, fun j hj hjf => ?_, H'.next⟩ (by rw [AHeap.get_set_ne _ _ hne]; exact g') ?_ ?_ ?_ ?_
      · by_cases e : j = G
        · subst e
          rw [AHeap.get_set_same]
          exact .inr (.inr ⟨vc, to, -7, hG, rfl⟩)
        · rw [AHeap.get_set_ne _ _ e]; exact H'.one j hj
      · rw [AHeap.get_set_ne _ _ (fun e => hjf (by rw [e]; exact (ke G (by simp)).1))]; exact H'.keep j hj hjf
      all_goals simp [updL_cons, p1, p2, p3]
    all_goals simp [updL_cons, q1, q2, q3, q4]

end Go.Amb
end

section
/- An automaton spoilt, whole. -/
set_option linter.unusedVariables false
set_option linter.unusedSimpArgs false
namespace Go.Amb
open Go.Proofs

theorem ev32_L1 (call : Call) (lf : Nat) {fs : List Nat} {h0 : AHeap} {b1 : Nat} {v : Value} {rest : List Value} {s : List NS} (hlf : tot s + 80 ≤ lf) (ht : tot s ≤ 1000000) (hed : EdOk s) (g1 : h0.get b1 = .cells (v :: rest) 67 none false) (l1 : b1 < h0.next) (n1 : b1 ∉ fs) (Hv : StsRep h0 v s fs) (lv : ∀ j ∈ fs, j < h0.next) (K : KS) (P : Option Ans → Prop)
    (kx : ∀ σ' h', Sp fs h0 h' → P (K (.exit 0) σ' h')) :
    ∀ (m i f : Nat) (h : AHeap) (σ : St), s.length - i = m → i ≤ s.length → m < f → Sp fs h0 h → σ 1 = P0 b1 0 → σ 2 = I i → P (loopS (g32_L1 call lf) f σ h K) := by
  obtain ⟨va, vc, hv⟩ := Hv.slc
  have hls : s.length ≤ 1000000 := by unfold tot at ht; omega
  intro m
  induction m with
  | zero =>
    intro i f h σ hm hi hf H q1 q2
    obtain ⟨f, rfl⟩ : ∃ q, f = q + 1 := ⟨f - 1, by omega⟩
    have hil : i = s.length := by omega
    subst hil
    have g1' : h.get b1 = .cells (v :: rest) 67 none false := by rw [H.keep _ l1 n1]; exact g1
    rw [loopS_succ, g32_L1]
    simp only [q1, q2, cFieldAddr_ptr, Nat.zero_add, cLoad1_ptr, ld1_eq, cell?_of g1', List.getElem?_cons_zero, ob_some, hv, asLK_slc, cLenS_eq, cBin_lss, Int.lt_irrefl, decide_false, cIf_eq, Bool.false_eq_true, if_false, loopK_exit]
    exact kx _ _ H
  | succ m ih =>
    intro i f h σ hm hi hf H q1 q2
    obtain ⟨f, rfl⟩ : ∃ q, f = q + 1 := ⟨f - 1, by omega⟩
    have hil : i < s.length := by omega
    have hget : s[i]? = some s[i] := List.getElem?_eq_getElem hil
    have hmem : s[i] ∈ s := List.getElem_mem hil
    generalize s[i] = st at hget hmem
    have g1' : h.get b1 = .cells (v :: rest) 67 none false := by rw [H.keep _ l1 n1]; exact g1
    have hfr := totF_le hmem
    rcases Hv with ⟨hs, _⟩ | ⟨S, cs, fc, _, hvS, hS, hC, hfs⟩
    · rw [hs] at hil; simp at hil
    · obtain ⟨ve, vf, fe, ff, c1, c2, He, Hf, ke, kf⟩ := hC.at hget
      have hSl : S < h0.next := lv S (by rw [hfs]; simp)
      have gS : h.get S = .cells cs 102 (some 2) false := H.same hSl hS
      have lfe : ∀ j ∈ fe, j ∈ fs ∧ j < h0.next := fun j hj => by
        have : j ∈ fs := by rw [hfs]; exact List.mem_cons_of_mem _ (ke j hj)
        exact ⟨this, lv j this⟩
      have lff : ∀ j ∈ ff, j ∈ fs ∧ j < h0.next := fun j hj => by
        have : j ∈ fs := by rw [hfs]; exact List.mem_cons_of_mem _ (kf j hj)
        exact ⟨this, lv j this⟩
      obtain ⟨⟨ea, ec, hve⟩, _⟩ := He.slc
      obtain ⟨⟨fa, fcc, hvf⟩, _⟩ := Hf.slc
      have hx : idx? (i : Int) s.length = some i := idx?_nat hil
      have hlt : ((i : Int) < (s.length : Int)) := by omega
      have hld : ∀ (R : Type) (F : List Value → Option R), h.ldL S [.slc, .slc] (i * 2) F = F [ve, vf] := fun R F => ld2 (by rw [cell?_of gS]; exact c1) (by rw [cell?_of gS]; exact c2) ⟨_, _, _, hve⟩ ⟨_, _, _, hvf⟩ F
      have hst : ∀ F : AHeap → Option Ans, cStore 2 (P0 h.next 0) (.agg [ve, vf].toArray) (h.new (.cells [.slice none 0 0, .slice none 0 0] 102 none false)) F = F ((h.new (.cells [.slice none 0 0, .slice none 0 0] 102 none false)).set h.next (.cells [ve, vf] 102 none false)) := fun F => st2 (get_new_self _ _) ⟨_, _, _, hve⟩ ⟨_, _, _, hvf⟩ F
      have H2 : Sp fs h0 ((h.new (.cells [.slice none 0 0, .slice none 0 0] 102 none false)).set h.next (.cells [ve, vf] 102 none false)) := (H.new _).over H.next _
      have g2 : ((h.new (.cells [.slice none 0 0, .slice none 0 0] 102 none false)).set h.next (.cells [ve, vf] 102 none false)).get h.next = .cells [ve, vf] 102 none false := AHeap.get_set_same _ _ _
      have W := WL.free (fs := fs) Hf lff
      have hn0 := H.next
      rw [loopS_succ, g32_L1]
      simp only [q1, q2, cFieldAddr_ptr, Nat.zero_add, cLoad1_ptr, ld1_eq, cell?_of g1', List.getElem?_cons_zero, ob_some, hvS, asLK_slc, cLenS_eq, cBin_lss, hlt, decide_true, cIf_eq, if_true, cIdxS_slice, hx, cLoadA_ptr, hld, cNew_eq, hst]
      refine ev32_L2 call lf (by omega) hn0 He Hf lfe lff (hed st hmem) (by omega) (P0 b1 0) (I i) _ P ?_ _ _ H2 g2 ?_ ?_ ?_ ?_
      · intro σ' h' H' g' p1 p2 p3
        simp only [hBlk_same, hSeq_normal, c6']
        refine ev32_L7 call lf hn0 W (by unfold tot at ht; omega) (P0 b1 0) (I i) _ P ?_ st.free.length 0 lf h' _ (by omega) (by omega) (by unfold tot at hlf; omega) H' g' ?_ ?_ ?_ ?_
        · intro σ'' h'' H'' r1 r2
          simp only [hBlk_same, hBlk_normal, hSeq_normal, g32_C8, r2]
          rw [cBin_add _ _ _ (by omega) (by omega)]
          simp only [loopK_normal]
          refine ih (i + 1) f h'' _ (by omega) (by omega) (by omega) H'' ?_ ?_
          all_goals simp [updL_cons, r1]
        all_goals simp [updL_cons, p1, p2, p3]
      all_goals simp [updL_cons, q1, q2]

theorem ev32 (X : Call) (n : Nat) {h : AHeap} {x : Value} {r : Nat × Nat × List NS} {e : Nat} {fs : List Nat} (Hx : AutAt e h x r fs) (ok : AutOk r) (hn : tot r.2.2 + 80 ≤ n) :
    ∃ h', evF EK X (n + 1) 32 [x] h = some (.ret (.tuple #[]) h') ∧ h.next ≤ h'.next ∧ ∀ j, j < h.next → j ∉ fs → h'.get j = h.get j := by
  obtain ⟨v, rfl, Sv, _, lv⟩ := Hx
  rw [evF_B _ _ _ _ _ _ (by kernel_rfl), g32_eq, g32]
  simp only [st0_zero, cNew_eq, Value.cells, List.toList_toArray]
  have kp : ∀ j, j < h.next → (h.new (.cells [v, I r.1, I r.2.1] 67 none false)).get j = h.get j := fun j hj => get_new_lt _ hj
  refine ev32_L1 (evF EK X n) n (fs := fs) (h0 := h.new (.cells [v, I r.1, I r.2.1] 67 none false)) (b1 := h.next) hn ok.tt ok.ed (get_new_self _ _) (by simp) (fun hm => by have := (lv _ hm).2; omega) (Sv.frame fun i hi => kp i (lv i hi).2) (fun j hj => by have := (lv j hj).2; simp; omega) _
    (fun E => ∃ h', E = some (.ret (.tuple #[]) h') ∧ h.next ≤ h'.next ∧ ∀ j, j < h.next → j ∉ fs → h'.get j = h.get j) (fun σ' h' H => ?_) r.2.2.length 0 n _ _ (by omega) (by omega) (by unfold tot at hn; omega) (Sp.refl _ _) ?_ ?_
  · refine ⟨h', by simp [hBlk_same], by have := H.next; simp at this; omega, fun j hj hf => ?_⟩
    rw [H.keep j (by simp; omega) hf, kp j hj]
  all_goals simp [updL_cons]
end Go.Amb
end

section
/- The law: two ways to lay, one automaton. -/
set_option linter.unusedVariables false
set_option linter.unusedSimpArgs false
namespace Go.Amb
open Go.Proofs

theorem ev30 (X : Call) (n : Nat) (v : Int) (h : AHeap) : evF EK X (n + 1) 30 [I v] h = some (.ret (I v) h) := by
  rw [evF_B _ _ _ _ _ _ (by kernel_rfl), g30_eq, g30]
  simp [updL_cons]
theorem AutAt.frame {e : Nat} {h h' : AHeap} {x : Value} {r : Nat × Nat × List NS} {fs : List Nat} (H : AutAt e h x r fs) (hn : h.next ≤ h'.next) (k : ∀ i ∈ fs, h'.get i = h.get i) : AutAt e h' x r fs := by
  obtain ⟨v, a, b, c, d⟩ := H
  exact ⟨v, a, b.frame k, c, fun j hj => by have := d j hj; exact ⟨this.1, by omega⟩⟩
theorem AutAt.val {e : Nat} {h : AHeap} {x : Value} {r : Nat × Nat × List NS} {fs : List Nat} (H : AutAt e h x r fs) : ∃ v, x = .agg [v, I r.1, I r.2.1].toArray ∧ ∃ a l c, v = .slice a l c := by
  obtain ⟨v, a, b, c, d⟩ := H
  obtain ⟨a', c', q⟩ := b.slc
  exact ⟨v, a, _, _, _, q⟩
/-- A call that gives an automaton and a number. -/
theorem call_aut {call : Call} {f : FuncId} {args : List Value} {h h' : AHeap} {x : Value} {e : Nat} {r : Nat × Nat × List NS} {fs : List Nat} {i : Int} (E : call f args h = some (.ret (.tuple #[x, I i]) h')) (H : AutAt e h' x r fs) (K kp : K2) :
    cCall call f args [(true, [.slc, .int .i64, .int .i64]), (false, [.int .i64])] h K kp = K (.tuple #[x, I i]) h' := by
  obtain ⟨v, rfl, a, l, c, rfl⟩ := H.val
  rw [cCall_ret E]
  simp only [asRetL_two, asResL_cons, asResL_nil, asTIL_agg, asLKs_cons, asLKs_nil, asLK_slc, asLK_int, asTIL_one, List.toList_toArray]

theorem ev4 (X : Call) (hX : ∀ h, X 33 [] h = some (.ret (.bool true) h)) (n : Nat) {N : Nat} {h : AHeap} {p : Pat} {a b c : Value} (HP : PatAt N h p a b c) (hN : N ≤ h.next) (hn : p.wt + tot (autP p).2.2 + 200 ≤ n) :
    ∃ h', evF EK X (n + 1) 4 [.agg [a, b, c].toArray] h = some (.ret (.bool true) h') ∧ h.next ≤ h'.next ∧ ∀ j, j < h.next → h'.get j = h.get j := by
  obtain ⟨n, rfl⟩ : ∃ q, n = q + 1 := ⟨n - 1, by omega⟩
  obtain ⟨ha, hb, _⟩ := HP.parts
  obtain ⟨ka, kc, hce, hk⟩ := HP.kidsSlc
  obtain ⟨ba, bc, hbe, hbl⟩ := hb.slc
  have ok := autP_ok p
  have hld : ∀ (h' : AHeap) (R : Type) (f : List Value → Option R), h'.get h.next = .cells [a, b, c] 64 none false → h'.ldL h.next [.int .i64, .slc, .slc] 0 f = f [a, b, c] := fun h' R f hg =>
    load_kid ha ⟨_, _, _, hbe⟩ ⟨_, _, _, hce⟩ (by rw [cell?_of hg]; rfl) (by rw [cell?_of hg]; rfl) (by rw [cell?_of hg]; rfl)
  have gb1 : (h.new (.cells [a, b, c] 64 none false)).get h.next = .cells [a, b, c] 64 none false := get_new_self _ _
  have k1 : ∀ i, i < h.next → (h.new (.cells [a, b, c] 64 none false)).get i = h.get i := fun i hi => get_new_lt _ hi
  have n1 : (h.new (.cells [a, b, c] 64 none false)).next = h.next + 1 := rfl
  rw [evF_B _ _ _ _ _ _ (by kernel_rfl), g4_eq, g4]
  simp only [st0_zero, cNew_eq, Value.cells, List.toList_toArray]
  generalize h.new (.cells [a, b, c] 64 none false) = h1 at *
  -- the program's
  obtain ⟨h2, x1, f1, e2, A1, n2, k2⟩ := ev28 X n (HP.frame (fun i hi => k1 i (by omega)) _) (by omega) (by omega)
  obtain ⟨v1, hx1, hv1⟩ := A1.val
  have l1 := A1
  obtain ⟨_, _, _, _, l1⟩ := l1
  simp only [cLoadA_ptr, hld _ _ _ gb1]
  rw [call_aut e2 A1]
  simp only [cExtract_eq, List.toList_toArray, List.getElem?_cons_zero, List.getElem?_cons_succ, ob_some]
  subst hx1
  rw [st3 (get_new_self _ _) hv1]
  have k3 : ∀ i, i < h2.next → ((h2.new (.cells [.slice none 0 0, I 0, I 0] 67 none false)).set h2.next (.cells [v1, I (autP p).1, I (autP p).2.1] 67 none false)).get i = h2.get i := fun i hi => by rw [AHeap.get_set_ne _ _ (by omega), get_new_lt _ hi]
  have g3 : ((h2.new (.cells [.slice none 0 0, I 0, I 0] 67 none false)).set h2.next (.cells [v1, I (autP p).1, I (autP p).2.1] 67 none false)).get h2.next = .cells [v1, I (autP p).1, I (autP p).2.1] 67 none false := AHeap.get_set_same _ _ _
  have n3 : ((h2.new (.cells [.slice none 0 0, I 0, I 0] 67 none false)).set h2.next (.cells [v1, I (autP p).1, I (autP p).2.1] 67 none false)).next = h2.next + 1 := rfl
  generalize (h2.new (.cells [.slice none 0 0, I 0, I 0] 67 none false)).set h2.next (.cells [v1, I (autP p).1, I (autP p).2.1] 67 none false) = h3 at *
  have gb3 : h3.get h.next = .cells [a, b, c] 64 none false := by rw [k3 _ (by omega), k2 _ (by omega)]; exact gb1
  have A1' := A1.frame (h' := h3) (by omega) (fun i hi => k3 i (l1 i hi).2)
  -- the document's
  obtain ⟨h4, x2, f2, e4, A2, n4, k4⟩ := ev29 X n (HP.frame (fun i hi => by rw [k3 i (by omega), k2 i (by omega), k1 i (by omega)]) _) (by omega) (by omega)
  obtain ⟨v2, hx2, hv2⟩ := A2.val
  have l2 := A2
  obtain ⟨_, _, _, _, l2⟩ := l2
  simp only [cLoadA_ptr, hld _ _ _ gb3]
  rw [call_aut e4 A2]
  simp only [cExtract_eq, List.toList_toArray, List.getElem?_cons_zero, List.getElem?_cons_succ, ob_some]
  subst hx2
  rw [st3 (get_new_self _ _) hv2]
  have k5 : ∀ i, i < h4.next → ((h4.new (.cells [.slice none 0 0, I 0, I 0] 67 none false)).set h4.next (.cells [v2, I (autP p).1, I (autP p).2.1] 67 none false)).get i = h4.get i := fun i hi => by rw [AHeap.get_set_ne _ _ (by omega), get_new_lt _ hi]
  have g5 : ((h4.new (.cells [.slice none 0 0, I 0, I 0] 67 none false)).set h4.next (.cells [v2, I (autP p).1, I (autP p).2.1] 67 none false)).get h4.next = .cells [v2, I (autP p).1, I (autP p).2.1] 67 none false := AHeap.get_set_same _ _ _
  have n5 : ((h4.new (.cells [.slice none 0 0, I 0, I 0] 67 none false)).set h4.next (.cells [v2, I (autP p).1, I (autP p).2.1] 67 none false)).next = h4.next + 1 := rfl
  generalize (h4.new (.cells [.slice none 0 0, I 0, I 0] 67 none false)).set h4.next (.cells [v2, I (autP p).1, I (autP p).2.1] 67 none false) = h5 at *
  have A2' := A2.frame (h' := h5) (by omega) (fun i hi => k5 i (l2 i hi).2)
  have A1'' := A1'.frame (h' := h5) (by omega) (fun i hi => by have := (l1 i hi).2; rw [k5 i (by omega), k4 i (by omega)])
  have gb5 : h5.get h.next = .cells [a, b, c] 64 none false := by rw [k5 _ (by omega), k4 _ (by omega)]; exact gb3
  have g35 : h5.get h2.next = .cells [v1, I (autP p).1, I (autP p).2.1] 67 none false := by rw [k5 _ (by omega), k4 _ (by omega)]; exact g3
  -- they are the same
  obtain ⟨h6, e6, n6, k6⟩ := ev31 X n A1'' A2' ok (by omega)
  rw [cCall_ret (ev30 X n _ _)]
  simp only [asRetL_one, asTIL_one, asLK_int, cBin_neq, decide_true, Bool.not_true, gd_false, cLoadA_ptr, ld3 g35 hv1, ld3 g5 hv2]
  rw [cCall_ret e6]
  simp only [asRetL_one, asTIL_one, asLK_bool, cUn_not, Bool.not_true, cPick_eq, Bool.false_eq_true, if_false]
  rw [g4_C1]
  simp only [updL_cons, updL_nil, ↓reduceIte, Nat.reduceEqDiff, cIf_eq, Bool.false_eq_true, if_false]
  -- the first is spoilt
  have g36 : h6.get h2.next = .cells [v1, I (autP p).1, I (autP p).2.1] 67 none false := by rw [k6 _ (by omega)]; exact g35
  have A1s := A1''.frame (h' := h6) n6 (fun i hi => k6 i (by have := (l1 i hi).2; omega))
  obtain ⟨h7, e7, n7, k7⟩ := ev32 X n A1s ok (by omega)
  simp only [cLoadA_ptr, ld3 g36 hv1]
  rw [cCall_ret e7]
  have nf : ∀ i, i < h1.next → i ∉ f1 := fun i hi hm => by have := (l1 i hm).1; omega
  have gb7 : h7.get h.next = .cells [a, b, c] 64 none false := by rw [k7 _ (by omega) (nf _ (by omega)), k6 _ (by omega)]; exact gb5
  simp only [asRetL_unit, cLoadA_ptr, hld _ _ _ gb7]
  -- and laid again
  obtain ⟨h8, x3, f3, e8, A3, n8, k8⟩ := ev28 X n (HP.frame (fun i hi => by rw [k7 i (by omega) (nf i (by omega)), k6 i (by omega), k5 i (by omega), k4 i (by omega), k3 i (by omega), k2 i (by omega), k1 i (by omega)]) _ : PatAt N h7 p a b c) (by omega) (by omega)
  obtain ⟨v3, hx3, hv3⟩ := A3.val
  have l3 := A3
  obtain ⟨_, _, _, _, l3⟩ := l3
  rw [call_aut e8 A3]
  simp only [cNew_eq, cExtract_eq, List.toList_toArray, List.getElem?_cons_zero, List.getElem?_cons_succ, ob_some]
  subst hx3
  rw [st3 (get_new_self _ _) hv3]
  have k9 : ∀ i, i < h8.next → ((h8.new (.cells [.slice none 0 0, I 0, I 0] 67 none false)).set h8.next (.cells [v3, I (autP p).1, I (autP p).2.1] 67 none false)).get i = h8.get i := fun i hi => by rw [AHeap.get_set_ne _ _ (by omega), get_new_lt _ hi]
  have g9 : ((h8.new (.cells [.slice none 0 0, I 0, I 0] 67 none false)).set h8.next (.cells [v3, I (autP p).1, I (autP p).2.1] 67 none false)).get h8.next = .cells [v3, I (autP p).1, I (autP p).2.1] 67 none false := AHeap.get_set_same _ _ _
  have n9 : ((h8.new (.cells [.slice none 0 0, I 0, I 0] 67 none false)).set h8.next (.cells [v3, I (autP p).1, I (autP p).2.1] 67 none false)).next = h8.next + 1 := rfl
  generalize (h8.new (.cells [.slice none 0 0, I 0, I 0] 67 none false)).set h8.next (.cells [v3, I (autP p).1, I (autP p).2.1] 67 none false) = h9 at *
  have A3' := A3.frame (h' := h9) (by omega) (fun i hi => k9 i (l3 i hi).2)
  have nf2 : ∀ i, h3.next ≤ i → i ∉ f1 := fun i hi hm => by have := (l1 i hm).2; omega
  have A2s := A2'.frame (h' := h9) (by omega) (fun i hi => by
    have q := l2 i hi
    rw [k9 i (by omega), k8 i (by omega), k7 i (by omega) (nf2 i (by omega)), k6 i (by omega)])
  have g59 : h9.get h4.next = .cells [v2, I (autP p).1, I (autP p).2.1] 67 none false := by rw [k9 _ (by omega), k8 _ (by omega), k7 _ (by omega) (nf2 _ (by omega)), k6 _ (by omega)]; exact g5
  obtain ⟨h10, e10, n10, k10⟩ := ev31 X n A3' A2s ok (by omega)
  simp only [cLoadA_ptr, ld3 g9 hv3, ld3 g59 hv2]
  rw [cCall_ret e10]
  simp only [asRetL_one, asTIL_one, asLK_bool, gd_true]
  rw [cCall_ret (by rw [evF_X EK X n 33 [] h10 (by kernel_rfl), hX])]
  simp only [asRetL_one, asTIL_one, asLK_bool, cPick_eq, if_true]
  refine ⟨h10, by simp [g4_C2, updL_cons], by omega, fun j hj => ?_⟩
  rw [k10 j (by omega), k9 j (by omega), k8 j (by omega), k7 j (by omega) (nf j (by omega)), k6 j (by omega), k5 j (by omega), k4 j (by omega), k3 j (by omega), k2 j (by omega), k1 j hj]
end Go.Amb
end
