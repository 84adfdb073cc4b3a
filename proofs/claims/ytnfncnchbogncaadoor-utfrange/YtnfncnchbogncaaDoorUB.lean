/- Part of the proof by the abstract machine: no claim of its own. -/
import Derived.Test.YtnfncnchbogncaaDoorUA
import Derived.Test.YtnfncnchbogncaaDoorU16
set_option linter.unusedSimpArgs false
set_option linter.unusedVariables false
set_option linter.unnecessarySimpa false
set_option linter.unusedSectionVars false
section
/- UtfRange: its memory; the loop over the text. -/
set_option linter.unusedVariables false
set_option linter.unusedSimpArgs false
set_option maxRecDepth 100000
namespace Go.Amb
open Go.Proofs

theorem ev5 (X : Call) (n : Nat) (s : ByteArray) (h : AHeap) : evF UE X (n + 1) 5 [.string s] h = some (.ret (.func (.func 15) #[] #[P0 h.next 0]) (h.new (.cells [.string s] 9 none false))) := by
  rw [evF_B _ _ _ _ _ _ (by kernel_rfl), g5_eq, g5]
  simp only [st0_zero, cNew_eq, finS_ret, evResS_tmp, evResS_nil, slot_eq, retOf_one]
  rfl
theorem ev6 (X : Call) (N : Nat) (hN : 300 ≤ N) {s : ByteArray} (hs : s.size ≤ 300) (h : AHeap) :
    ∃ v h' l, evF UE X (N + 9) 6 [.string s] h = some (.ret v h') ∧ Mk s 0 l ∧ MSl h' v l h.next ∧ Up h.next h h' := by
  rw [evF_B _ _ _ _ _ _ (by kernel_rfl), g6_eq, g6]
  refine lp6 X N (N + 8) hs (lo := h.next) _ (fun x => ∃ v h' l, x = some (.ret v h') ∧ Mk s 0 l ∧ MSl h' v l h.next ∧ Up h.next h h') s.size 0 (N + 8) _ h h [] (.slice none 0 0) (by omega) (by omega) (by simp) (by omega) ?_ ?_ ?_ (.inl ⟨rfl, rfl⟩) (Up.refl _ h) (Nat.le_refl _) ?_
  · simp only [slot_ne, ne_eq, Nat.reduceEqDiff, not_false_eq_true, updL_nil, st0_zero]
  · simp only [slot_eq]; rfl
  · simp only [slot_eq, slot_ne, ne_eq, Nat.reduceEqDiff, not_false_eq_true]
  · intro σ h' v l mk e3 M U
    refine ⟨v, h', l, ?_, mk, by simpa using M, U⟩
    simp only [hBlk_same, hSeq_normal, g6_C3, finS_ret, evResS_tmp, evResS_nil, slot_eq, retOf_one, e3]

structure FS (h : AHeap) (N0 A : Nat) (s : ByteArray) (kk : Int) (l : List (Nat × Nat × Nat)) (i : Int) : Prop where
  nA : N0 + 4 ≤ A
  nx : A + 2 ≤ h.next
  g3 : h.get N0 = .cells [I kk] 3 none false
  g4 : h.get (N0 + 1) = .cells [.bool false] 4 none false
  gb : h.get (N0 + 2) = .cells [.string s] 9 none false
  g5 : h.get (N0 + 3) = .cells [.func (.func 15) #[] #[P0 (N0 + 2) 0]] 24 none false
  ms : ∃ v, h.get A = .cells [v] 26 none false ∧ ((l = [] ∧ v = .slice none 0 0) ∨ ∃ B, v = S0 B 0 l.length l.length ∧ h.get B = .cells (mcells l) 29 (some 4) false ∧ N0 + 4 ≤ B ∧ B < A)
  g7 : h.get (A + 1) = .cells [I i] 3 none false
  n0 : 2 ≤ N0
  tb : Tab h
structure SLt (σ : St) (N0 A : Nat) : Prop where
  s3 : σ 3 = P0 N0 0
  s4 : σ 4 = P0 (N0 + 1) 0
  s5 : σ 5 = P0 (N0 + 3) 0
  s6 : σ 6 = P0 A 0
  s7 : σ 7 = P0 (A + 1) 0
section
variable {h : AHeap} {N0 A : Nat} {s : ByteArray} {kk i : Int} {l : List (Nat × Nat × Nat)}
theorem FS.new (F : FS h N0 A s kk l i) (o : AObj) : FS (h.new o) N0 A s kk l i := by
  have k : ∀ j, j < A + 2 → (h.new o).get j = h.get j := fun j hj => by rw [AHeap.get_new, if_neg (by have := F.nx; omega)]
  have := F.nA
  refine ⟨F.nA, by have := F.nx; simp; omega, by rw [k _ (by omega)]; exact F.g3, by rw [k _ (by omega)]; exact F.g4, by rw [k _ (by omega)]; exact F.gb, by rw [k _ (by omega)]; exact F.g5, ?_, by rw [k _ (by omega)]; exact F.g7, F.n0, by obtain ⟨e0, e1, x, y⟩ := F.tb; have := F.n0; exact ⟨e0, e1, by rw [k 0 (by omega)]; exact x, by rw [k 1 (by omega)]; exact y⟩⟩
  obtain ⟨v, e, hv⟩ := F.ms
  refine ⟨v, by rw [k _ (by omega)]; exact e, hv.imp id fun ⟨B, a, b, c, d⟩ => ⟨B, a, by rw [k _ (by omega)]; exact b, c, d⟩⟩
theorem FS.set (F : FS h N0 A s kk l i) {q : Nat} (hq : A + 2 ≤ q) (o : AObj) : FS (h.set q o) N0 A s kk l i := by
  have k : ∀ j, j < A + 2 → (h.set q o).get j = h.get j := fun j hj => by rw [AHeap.get_set, if_neg (by omega)]
  have := F.nA
  refine ⟨F.nA, F.nx, by rw [k _ (by omega)]; exact F.g3, by rw [k _ (by omega)]; exact F.g4, by rw [k _ (by omega)]; exact F.gb, by rw [k _ (by omega)]; exact F.g5, ?_, by rw [k _ (by omega)]; exact F.g7, F.n0, by obtain ⟨e0, e1, x, y⟩ := F.tb; have := F.n0; exact ⟨e0, e1, by rw [k 0 (by omega)]; exact x, by rw [k 1 (by omega)]; exact y⟩⟩
  obtain ⟨v, e, hv⟩ := F.ms
  refine ⟨v, by rw [k _ (by omega)]; exact e, hv.imp id fun ⟨B, a, b, c, d⟩ => ⟨B, a, by rw [k _ (by omega)]; exact b, c, d⟩⟩
theorem FS.st7 (F : FS h N0 A s kk l i) (j : Int) : ∃ h', (∀ K : AHeap → Option Ans, cStore 1 (P0 (A + 1) 0) (I j) h K = K h') ∧ FS h' N0 A s kk l j ∧ h'.next = h.next ∧ ∀ q, q ≠ A + 1 → h'.get q = h.get q := by
  refine ⟨h.set (A + 1) (.cells [I j] 3 none false), fun K => ?_, ?_, rfl, fun q hq => by rw [AHeap.get_set, if_neg hq]⟩
  · rw [cStore_ptr 1 _ _ (I j) K rfl, st_of F.g7 (Nat.le_refl 1) rfl]
    rfl
  · have k : ∀ j', j' ≠ A + 1 → (h.set (A + 1) (.cells [I j] 3 none false)).get j' = h.get j' := fun j' hj => by rw [AHeap.get_set, if_neg hj]
    have := F.nA
    refine ⟨F.nA, F.nx, by rw [k _ (by omega)]; exact F.g3, by rw [k _ (by omega)]; exact F.g4, by rw [k _ (by omega)]; exact F.gb, by rw [k _ (by omega)]; exact F.g5, ?_, by rw [AHeap.get_set, if_pos rfl], F.n0, by obtain ⟨e0, e1, x, y⟩ := F.tb; have := F.n0; exact ⟨e0, e1, by rw [k 0 (by omega)]; exact x, by rw [k 1 (by omega)]; exact y⟩⟩
    obtain ⟨v, e, hv⟩ := F.ms
    refine ⟨v, by rw [k _ (by omega)]; exact e, hv.imp id fun ⟨B, a, b, c, d⟩ => ⟨B, a, by rw [k _ (by omega)]; exact b, c, d⟩⟩
theorem ld_int {a : Nat} {n : Int} {e : TypeId} {o : Option Nat} {ro : Bool} (hg : h.get a = .cells [I n] e o ro) (K : Amb.K1) : cLoad1 (.int .i64) (P0 a 0) h K = K (I n) := by
  simp only [cLoad1_ptr, ld1_eq, cell?_of hg, List.getElem?_cons_zero, ob_some, asLK_int]
theorem ld_any {a : Nat} {v : Value} {e : TypeId} {o : Option Nat} {ro : Bool} (hg : h.get a = .cells [v] e o ro) (K : Amb.K1) : cLoad1 .any (P0 a 0) h K = K v := by
  simp only [cLoad1_ptr, ld1_eq, cell?_of hg, List.getElem?_cons_zero, ob_some, asLK_any]
theorem FS.len (F : FS h N0 A s kk l i) : ∃ a : Option Addr, ∀ K : Amb.K1, cLoad1 .slc (P0 A 0) h K = K (.slice a l.length l.length) := by
  obtain ⟨v, e, hv⟩ := F.ms
  rcases hv with ⟨rfl, rfl⟩ | ⟨B, rfl, _⟩
  · exact ⟨none, fun K => by simp only [cLoad1_ptr, ld1_eq, cell?_of e, List.getElem?_cons_zero, ob_some, asLK_slc]; rfl⟩
  · exact ⟨some ⟨B, 0, none⟩, fun K => by simp only [cLoad1_ptr, ld1_eq, cell?_of e, List.getElem?_cons_zero, ob_some, asLK_slc]⟩
theorem FS.mark (F : FS h N0 A s kk l i) {pre l2 : List (Nat × Nat × Nat)} {x : Nat × Nat × Nat} (hl : l = pre ++ x :: l2) :
    ∃ B, (∀ K : Amb.K1, cLoad1 .slc (P0 A 0) h K = K (S0 B 0 l.length l.length)) ∧ (∀ K : Amb.K1, cLoad1 (.int .i64) (P0 B (0 + pre.length * 4 + 0)) h K = K (I x.1)) ∧ (∀ K : Amb.K1, cLoad1 (.int .i32) (P0 B (0 + pre.length * 4 + 2)) h K = K (R32 x.2.2)) := by
  obtain ⟨v, e, hv⟩ := F.ms
  rcases hv with ⟨rfl, _⟩ | ⟨B, rfl, hB, _⟩
  · have := congrArg List.length hl
    simp at this
  · refine ⟨B, fun K => by simp only [cLoad1_ptr, ld1_eq, cell?_of e, List.getElem?_cons_zero, ob_some, asLK_slc], fun K => ?_, fun K => ?_⟩
    · rw [cLoad1_ptr, ld1_eq, cell?_of hB, Nat.zero_add, hl, mcells_get (by decide)]
      rfl
    · rw [cLoad1_ptr, ld1_eq, cell?_of hB, Nat.zero_add, hl, mcells_get (by decide)]
      rfl
theorem SLt.up {σ : St} (S : SLt σ N0 A) {L : List (Nat × Value)} (hL : ∀ p ∈ L, p.1 ≠ 3 ∧ p.1 ≠ 4 ∧ p.1 ≠ 5 ∧ p.1 ≠ 6 ∧ p.1 ≠ 7) : SLt (updL σ L) N0 A := by
  have key : ∀ (L : List (Nat × Value)) (t : Nat), (∀ p ∈ L, p.1 ≠ t) → updL σ L t = σ t := by
    intro L t
    induction L with
    | nil => intro _; rfl
    | cons p L ih => intro hp; obtain ⟨a, b⟩ := p; rw [slot_ne (fun e => hp (a, b) List.mem_cons_self e.symm)]; exact ih fun q hq => hp q (List.mem_cons_of_mem _ hq)
  exact ⟨by rw [key L 3 fun p hp => (hL p hp).1]; exact S.s3, by rw [key L 4 fun p hp => (hL p hp).2.1]; exact S.s4, by rw [key L 5 fun p hp => (hL p hp).2.2.1]; exact S.s5, by rw [key L 6 fun p hp => (hL p hp).2.2.2.1]; exact S.s6, by rw [key L 7 fun p hp => (hL p hp).2.2.2.2]; exact S.s7⟩
end
end Go.Amb
end

section
/- UtfRange: the loop over the text; the loops over Each. -/
set_option linter.unusedVariables false
set_option linter.unusedSimpArgs false
set_option maxRecDepth 100000
namespace Go.Amb
open Go.Proofs

theorem next_end {h : AHeap} {q p : Nat} {s : ByteArray} (hg : h.get q = .iter s p) (hp : s.size ≤ p) (f : K2) : opNextR idR h f (.const (P0 q 0)) = f (.tuple #[.bool false]) h := by
  show (ob (h.iter? q) fun p => match Nat.ble p.1.size p.2 with
      | true => f (.tuple #[.bool false]) h
      | false => f (.tuple #[.bool true, .int .i64 p.2, .int .i32 (Utf8.decode p.1 p.2).1]) (h.set q (.iter p.1 (p.2 + (Utf8.decode p.1 p.2).2)))) = _
  rw [show h.iter? q = some (s, p) by unfold AHeap.iter?; rw [hg], ob_some]
  simp only [Nat.ble_eq_true_of_le hp]
theorem next_go {h : AHeap} {q p : Nat} {s : ByteArray} (hg : h.get q = .iter s p) (hp : p < s.size) (f : K2) : opNextR idR h f (.const (P0 q 0)) = f (.tuple #[.bool true, I p, R32 (Utf8.decode s p).1]) (h.set q (.iter s (p + (Utf8.decode s p).2))) := by
  show (ob (h.iter? q) fun p => match Nat.ble p.1.size p.2 with
      | true => f (.tuple #[.bool false]) h
      | false => f (.tuple #[.bool true, .int .i64 p.2, .int .i32 (Utf8.decode p.1 p.2).1]) (h.set q (.iter p.1 (p.2 + (Utf8.decode p.1 p.2).2)))) = _
  rw [show h.iter? q = some (s, p) by unfold AHeap.iter?; rw [hg], ob_some]
  have : Nat.ble s.size p = false := by
    cases hb : Nat.ble s.size p with
    | false => rfl
    | true => have := Nat.le_of_ble_eq_true hb; omega
  simp only [this]

theorem lpA (call : Call) (N : Nat) {s : ByteArray} {kk : Int} {l : List (Nat × Nat × Nat)} {N0 A : Nat} (hll : l.length ≤ 1000) (K : KS) (P : Option Ans → Prop)
    (hk : ∀ (σ : St) (h : AHeap), SLt σ N0 A → FS h N0 A s kk l l.length → A + 3 ≤ h.next → P (K (.exit 0) σ h)) :
    ∀ (l2 pre : List (Nat × Nat × Nat)) (p n : Nat) (σ : St) (h : AHeap), l = pre ++ l2 → Mk s p l2 → l2.length < n → SLt σ N0 A → σ 27 = P0 (A + 2) 0 → FS h N0 A s kk l pre.length → A + 3 ≤ h.next → h.get (A + 2) = .iter s p →
      P (loopS (g3_L1 call N) n σ h K) := by
  intro l2
  induction l2 with
  | nil =>
    intro pre p n σ h hl mk hn S e27 F hx hg
    obtain ⟨n, rfl⟩ : ∃ q, n = q + 1 := ⟨n - 1, by simp at hn; omega⟩
    have hp : s.size ≤ p := by cases mk; assumption
    rw [loopS_succ, g3_L1, e27, next_end hg hp]
    simp only [cExtract_eq, List.getElem?_cons_zero, ob_some, cIf_eq, Bool.false_eq_true, if_false, loopK_exit]
    have : l = pre := by rw [hl, List.append_nil]
    subst this
    exact hk _ _ (S.up (by simp)) F hx
  | cons x l2 ih =>
    intro pre p n σ h hl mk hn S e27 F hx hg
    obtain ⟨n, rfl⟩ : ∃ q, n = q + 1 := ⟨n - 1, by simp at hn; omega⟩
    have hlen : pre.length < l.length := by rw [hl]; simp
    cases mk with
    | cons hp mk =>
      have F1 := F.set (q := A + 2) (Nat.le_refl _) (.iter s (p + (Utf8.decode s p).2))
      rw [loopS_succ, g3_L1, e27, next_go hg hp]
      generalize hh1 : h.set (A + 2) (.iter s (p + (Utf8.decode s p).2)) = h1 at F1
      have hg1 : h1.get (A + 2) = .iter s (p + (Utf8.decode s p).2) := by rw [← hh1, AHeap.get_set, if_pos rfl]
      have hn1 : h1.next = h.next := by rw [← hh1]; rfl
      obtain ⟨B, m1, m2, m3⟩ := F1.mark hl
      have c1 : ¬ ((pre.length : Int) ≥ l.length) := by omega
      simp only [S.s6, S.s7, cExtract_eq, List.getElem?_cons_zero, List.getElem?_cons_succ, ob_some, cIf_eq, if_true, ld_int F1.g7, m1, cLenS_eq, cBin_geq, c1, decide_false, gd_false, cIdxS_slice, idx?_nat hlen, cFieldAddr_ptr, m2, m3, cBin_neq, r_neq, decide_true, Bool.not_true, cPick_eq, Bool.false_eq_true, if_false]
      rw [g3_C2]
      simp only [slot_eq, cIf_eq, Bool.false_eq_true, if_false]
      have S2 : ∀ L : List (Nat × Value), (∀ p ∈ L, p.1 ≠ 3 ∧ p.1 ≠ 4 ∧ p.1 ≠ 5 ∧ p.1 ≠ 6 ∧ p.1 ≠ 7) → SLt (updL σ L) N0 A := fun L hL => S.up hL
      obtain ⟨h2, hst, F2, hn2, hs2⟩ := F1.st7 ((pre.length : Int) + 1)
      have e7 : ∀ L : List (Nat × Value), (∀ p ∈ L, p.1 ≠ 3 ∧ p.1 ≠ 4 ∧ p.1 ≠ 5 ∧ p.1 ≠ 6 ∧ p.1 ≠ 7) → updL σ L 7 = P0 (A + 1) 0 := fun L hL => (S2 L hL).s7
      rw [e7 _ (by simp), ld_int F1.g7, cBin_add _ _ _ (by omega) (by omega), hst, loopK_normal]
      refine ih (pre ++ [(p, (Utf8.decode s p).2, (Utf8.decode s p).1)]) _ n _ h2 (by rw [hl]; simp) mk (by simp at hn; omega) ((S2 _ (by simp)).up (by simp)) ?_ (by simpa using F2) (by omega) (by rw [hs2 _ (by omega)]; exact hg1)
      simp only [slot_ne, ne_eq, Nat.reduceEqDiff, not_false_eq_true, updL_nil, e27]

theorem upd_eq' (σ : St) (t : Nat) (v : Value) : upd σ t v t = v := by simp [upd]
theorem upd_ne' (σ : St) {t q : Nat} (v : Value) (h : q ≠ t) : upd σ t v q = σ q := by
  unfold upd
  have : Nat.beq q t = false := by
    cases hb : Nat.beq q t with
    | false => rfl
    | true => exact absurd (Nat.eq_of_beq_eq_true hb) h
  rw [this]
  rfl
theorem SLt.upd2 {σ : St} {N0 A : Nat} (S : SLt σ N0 A) {a b : Nat} (x y : Value) (ha : 7 < a) (hb : 7 < b) : SLt (upd (upd σ a x) b y) N0 A := by
  have k : ∀ q, q ≤ 7 → upd (upd σ a x) b y q = σ q := fun q hq => by rw [upd_ne' _ _ (by omega), upd_ne' _ _ (by omega)]
  exact ⟨by rw [k 3 (by omega)]; exact S.s3, by rw [k 4 (by omega)]; exact S.s4, by rw [k 5 (by omega)]; exact S.s5, by rw [k 6 (by omega)]; exact S.s6, by rw [k 7 (by omega)]; exact S.s7⟩
theorem rf_end {nx : List Value → AHeap → Option (Option (List Value × List Value))} {rd : List Value → AHeap → KS → Option Ans} {k : KS} {σ : St} {n : Nat} {st : List Value} {h : AHeap} (e : nx st h = some none) : rfS nx rd k σ (n + 1) st h = k .normal σ h := by
  simp only [rfS, e, ob_some]
theorem rf_go {nx : List Value → AHeap → Option (Option (List Value × List Value))} {rd : List Value → AHeap → KS → Option Ans} {k : KS} {σ : St} {n : Nat} {st st' args : List Value} {h : AHeap} (e : nx st h = some (some (args, st'))) :
    rfS nx rd k σ (n + 1) st h = rd args h (hRnd (fun h' => rfS nx rd k σ n st' h') σ k) := by
  simp only [rfS, e, ob_some]
theorem each_end {lb : List Value} {s : ByteArray} {p : Nat} (hp : s.size ≤ p) (h : AHeap) : itEach.next lb [.string s, I p] h = some none := by
  simp only [itEach, Int.toNat_natCast, Nat.ble_eq_true_of_le hp]
theorem each_go {lb : List Value} {s : ByteArray} {p : Nat} (hp : p < s.size) (h : AHeap) : itEach.next lb [.string s, I p] h = some (some ([I p, R32 (Utf8.decode s p).1], [.string s, I ((p + (Utf8.decode s p).2 : Nat) : Int)])) := by
  have : Nat.ble s.size p = false := by
    cases hb : Nat.ble s.size p with
    | false => rfl
    | true => have := Nat.le_of_ble_eq_true hb; omega
  simp only [itEach, Int.toNat_natCast, this]
theorem round2 {a b : Nat} {X Y : St → AHeap → KS → Option Ans} {σ : St} {x y : Value} {h : AHeap} {k : KS} : roundS [a, b] X Y σ [x, y] h k = X (upd (upd σ a x) b y) h (hAsg fun σ h => Y σ h k) := rfl

/-- A cell of one's own is written. -/
theorem st_own {h : AHeap} {N0 A : Nat} {s : ByteArray} {kk i : Int} {l : List (Nat × Nat × Nat)} (F : FS h N0 A s kk l i) {J : Nat} (hJ : A + 2 ≤ J) {v : Value} {e : TypeId} (hg : h.get J = .cells [v] e none false) (j : Int) :
    ∃ h', (∀ K : AHeap → Option Ans, cStore 1 (P0 J 0) (I j) h K = K h') ∧ FS h' N0 A s kk l i ∧ h'.next = h.next ∧ h'.get J = .cells [I j] e none false ∧ ∀ q, q ≠ J → h'.get q = h.get q := by
  refine ⟨h.set J (.cells [I j] e none false), fun K => ?_, F.set hJ _, rfl, by rw [AHeap.get_set, if_pos rfl], fun q hq => by rw [AHeap.get_set, if_neg hq]⟩
  rw [cStore_ptr 1 _ _ (I j) K rfl, st_of hg (Nat.le_refl 1) rfl]
  rfl

theorem lpIn (call : Call) (N : Nat) {lb : List Value} {s : ByteArray} {kk i : Int} {l : List (Nat × Nat × Nat)} {N0 A J : Nat} (hll : l.length ≤ 1000) (hJ : A + 2 ≤ J) {σ : St} (S : SLt σ N0 A) (e13 : σ 13 = P0 J 0) (kI : KS) (P : Option Ans → Prop) :
    ∀ (l2 pre : List (Nat × Nat × Nat)) (p n : Nat) (h : AHeap), l = pre ++ l2 → Mk s p l2 → l2.length < n → FS h N0 A s kk l i → h.get J = .cells [I pre.length] 3 none false →
      (∀ h', FS h' N0 A s kk l i → h'.next = h.next → (∀ q, q ≠ J → h'.get q = h.get q) → P (kI .normal σ h') ∧ P (kI (.exit 6) σ h')) →
      P (rfS (itEach.next lb) (roundS [90, 91] (g3_R8 call N) (g3_R9 call N) σ) kI σ n [.string s, I p] h) := by
  intro l2
  induction l2 with
  | nil =>
    intro pre p n h hl mk hn F hg hk
    obtain ⟨n, rfl⟩ : ∃ q, n = q + 1 := ⟨n - 1, by simp at hn; omega⟩
    have hp : s.size ≤ p := by cases mk; assumption
    rw [rf_end (each_end hp h)]
    exact (hk h F rfl fun _ _ => rfl).1
  | cons x l2 ih =>
    intro pre p n h hl mk hn F hg hk
    obtain ⟨n, rfl⟩ : ∃ q, n = q + 1 := ⟨n - 1, by simp at hn; omega⟩
    have hlen : pre.length < l.length := by rw [hl]; simp
    cases mk with
    | cons hp mk =>
      rw [rf_go (each_go hp h), round2, g3_R8, hAsg_normal]
      have S1 := S.upd2 (a := 90) (b := 91) (I p) (R32 (Utf8.decode s p).1) (by omega) (by omega)
      generalize hσ : upd (upd σ 90 (I p)) 91 (R32 (Utf8.decode s p).1) = σ1 at S1
      have f90 : σ1 90 = I p := by rw [← hσ, upd_ne' _ _ (by omega), upd_eq']
      have f91 : σ1 91 = R32 (Utf8.decode s p).1 := by rw [← hσ, upd_eq']
      have f13 : σ1 13 = P0 J 0 := by rw [← hσ, upd_ne' _ _ (by omega), upd_ne' _ _ (by omega)]; exact e13
      have S2 := S1.up (L := [(15, σ1 91), (14, σ1 90)]) (by simp)
      generalize hσ2 : updL σ1 [(15, σ1 91), (14, σ1 90)] = σ2 at S2
      have d15 : σ2 15 = R32 (Utf8.decode s p).1 := by rw [← hσ2, slot_eq, f91]
      have d14 : σ2 14 = I p := by rw [← hσ2, slot_ne (by omega), slot_eq, f90]
      have d13 : σ2 13 = P0 J 0 := by rw [← hσ2, slot_ne (by omega), slot_ne (by omega), updL_nil, f13]
      obtain ⟨B, m1, m2, m3⟩ := F.mark hl
      have c1 : ¬ ((pre.length : Int) ≥ l.length) := by omega
      rw [g3_R9]
      simp only [S2.s6, d13, d14, d15, ld_int hg, m1, cLenS_eq, cBin_geq, c1, decide_false, gd_false, cIdxS_slice, idx?_nat hlen, ob_some, cFieldAddr_ptr, m2, m3, cBin_neq, r_neq, decide_true, Bool.not_true, cPick_eq, Bool.false_eq_true, if_false]
      rw [g3_C10]
      have e13' : ∀ L : List (Nat × Value), (∀ p ∈ L, p.1 ≠ 13) → updL σ2 L 13 = P0 J 0 := by
        intro L
        induction L with
        | nil => intro _; exact d13
        | cons p L ih => intro hp; obtain ⟨a, b⟩ := p; rw [slot_ne (fun e => hp (a, b) List.mem_cons_self e.symm)]; exact ih fun q hq => hp q (List.mem_cons_of_mem _ hq)
      have e3' : ∀ L : List (Nat × Value), (∀ p ∈ L, p.1 ≠ 3 ∧ p.1 ≠ 4 ∧ p.1 ≠ 5 ∧ p.1 ≠ 6 ∧ p.1 ≠ 7) → updL σ2 L 3 = P0 N0 0 := fun L hL => (S2.up hL).s3
      simp only [slot_eq, cIf_eq, Bool.false_eq_true, if_false]
      obtain ⟨h2, hst, F2, hn2, hg2, hs2⟩ := st_own F hJ hg ((pre.length : Int) + 1)
      rw [e13' _ (by simp), e3' _ (by simp), ld_int hg, cBin_add _ _ _ (by omega) (by omega), hst, ld_int hg2, ld_int F2.g3, cBin_eql, cIf_eq]
      have hk2 : ∀ h', FS h' N0 A s kk l i → h'.next = h2.next → (∀ q, q ≠ J → h'.get q = h2.get q) → P (kI .normal σ h') ∧ P (kI (.exit 6) σ h') := fun h' F' n' s' => hk h' F' (n'.trans hn2) fun q hq => (s' q hq).trans (hs2 q hq)
      split
      · rw [hRnd_exit]
        exact (hk2 h2 F2 rfl fun _ _ => rfl).2
      · rw [hRnd_normal]
        exact ih (pre ++ [(p, (Utf8.decode s p).2, (Utf8.decode s p).1)]) _ n h2 (by rw [hl]; simp) mk (by simp at hn; omega) F2 (by rw [hg2]; simp) hk2
end Go.Amb
end

section
/- UtfRange: the loop over Each, twice. -/
set_option linter.unusedVariables false
set_option linter.unusedSimpArgs false
set_option maxRecDepth 100000
namespace Go.Amb
open Go.Proofs

theorem range_each {h : AHeap} {N0 A : Nat} {s : ByteArray} {kk i : Int} {l : List (Nat × Nat × Nat)} (F : FS h N0 A s kk l i) (ps : List Tmp) (X Y : St → AHeap → KS → Option Ans) (lf : Nat) (σ : St) (k : KS) :
    rangeS UE.it (.func (.func 15) #[] #[P0 (N0 + 2) 0]) ps X Y lf σ h k = rfS (itEach.next [P0 (N0 + 2) 0]) (roundS ps X Y σ) k σ lf [.string s, I 0] h := by
  unfold rangeS
  rw [show fnOf (.func (.func 15) #[] #[P0 (N0 + 2) 0]) = some (15, [P0 (N0 + 2) 0]) from rfl, ob_some, show UE.it.get 15 = some itEach from rfl, ob_some]
  have : itEach.start [P0 (N0 + 2) 0] h = some [.string s, I 0] := by
    show (h.ld1 (N0 + 2) 0 .str fun s => some [s, .int .i64 0]) = _
    rw [ld1_eq, cell?_of F.gb]
    rfl
  rw [this, ob_some]

theorem lpC7 (call : Call) {N : Nat} {s : ByteArray} {kk c i : Int} {l : List (Nat × Nat × Nat)} {N0 A Q : Nat} (hll : l.length ≤ 300) (hN : 300 < N) (hQ : A + 2 ≤ Q) (hmk : Mk s 0 l) (hi : 0 ≤ i ∧ i ≤ 1000) {σ : St} (S : SLt σ N0 A) (e88 : σ 88 = .bool false) (e10 : σ 10 = P0 Q 0) {h : AHeap} (F : FS h N0 A s kk l i) (hg : h.get Q = .cells [I c] 3 none false) (hQ2 : Q < h.next) (k : KS) (P : Option Ans → Prop)
    (hk : ∀ h' σ', FS h' N0 A s kk l (i + 1) → h.next ≤ h'.next → h'.get Q = .cells [I c] 3 none false → P (k .normal σ' h') ∧ (c = 0 → P (k (.exit 4) σ' h'))) : P (g3_C7 call N σ h k) := by
  rw [g3_C7]
  simp only [e88, cIf_eq, Bool.false_eq_true, if_false, cNew_eq, S.s5]
  have F1 := F.new (.cells [I 0] 3 none false)
  have hgJ : (h.new (.cells [I 0] 3 none false)).get h.next = .cells [I 0] 3 none false := by rw [AHeap.get_new, if_pos rfl]
  have hgQ : (h.new (.cells [I 0] 3 none false)).get Q = .cells [I c] 3 none false := by rw [AHeap.get_new, if_neg (by omega)]; exact hg
  have hnx := F.nx
  obtain ⟨h2, hst, F2, hn2, hg2, hs2⟩ := st_own F1 (J := h.next) hnx hgJ 0
  rw [hst, ld_any F2.g5, range_each F2]
  have S2 : SLt (updL σ [(89, .func (.func 15) #[] #[P0 (N0 + 2) 0]), (13, P0 h.next 0)]) N0 A := S.up (by simp)
  have e10' : updL σ [(89, .func (.func 15) #[] #[P0 (N0 + 2) 0]), (13, P0 h.next 0)] 10 = P0 Q 0 := by rw [slot_ne (by omega), slot_ne (by omega), updL_nil, e10]
  generalize hσ : updL σ [(89, .func (.func 15) #[] #[P0 (N0 + 2) 0]), (13, P0 h.next 0)] = σ2 at S2 e10'
  have e13 : σ2 13 = P0 h.next 0 := by rw [← hσ, slot_ne (by omega), slot_eq]
  refine lpIn (l := l) call N (by omega) hnx S2 e13 _ P l [] 0 N h2 rfl hmk (by omega) F2 hg2 ?_
  intro h3 F3 hn3 hs3
  have hg3 : h3.get Q = .cells [I c] 3 none false := by rw [hs3 Q (by omega), hs2 Q (by omega)]; exact hgQ
  have key : P (g3_C11 call N σ2 h3 k) := by
    rw [g3_C11]
    obtain ⟨h4, hst4, F4, hn4, hs4⟩ := F3.st7 (i + 1)
    have hg4 : h4.get Q = .cells [I c] 3 none false := by rw [hs4 Q (by omega)]; exact hg3
    have hne : h.next ≤ h4.next := by rw [hn4, hn3, hn2]; simp
    simp only [S2.s7, S2.s3, e10', ld_int F3.g7]
    rw [cBin_add _ _ _ (by omega) (by omega), hst4, ld_int hg4, cBin_eql]
    by_cases hc : c = 0
    · simp only [hc, decide_true, gd_true, ld_int F4.g7, ld_int F4.g3, cBin_eql, cPick_eq, if_true, g3_C12, slot_eq, cIf_eq]
      split
      · exact (hk h4 _ F4 hne hg4).2 hc
      · exact (hk h4 _ F4 hne hg4).1
    · simp only [hc, decide_false, gd_false, cPick_eq, Bool.false_eq_true, if_false, g3_C12, slot_eq, cIf_eq]
      exact (hk h4 _ F4 hne hg4).1
  exact ⟨by rw [hBlk_normal, hSeq_normal]; exact key, by rw [hBlk_same, hSeq_normal]; exact key⟩

theorem lpOut (call : Call) {N : Nat} {s : ByteArray} {kk c : Int} {l : List (Nat × Nat × Nat)} {N0 A Q : Nat} (hll : l.length ≤ 300) (hN : 300 < N) (hQ : A + 2 ≤ Q) (hmk : Mk s 0 l) {σ : St} (S : SLt σ N0 A) (e10 : σ 10 = P0 Q 0) (kO : KS) (P : Option Ans → Prop) :
    ∀ (l2 pre : List (Nat × Nat × Nat)) (p n : Nat) (h : AHeap), l = pre ++ l2 → Mk s p l2 → l2.length < n → FS h N0 A s kk l pre.length → h.get Q = .cells [I c] 3 none false → Q < h.next →
      (∀ h' j, FS h' N0 A s kk l j → h.next ≤ h'.next → h'.get Q = .cells [I c] 3 none false → (j = l.length → P (kO .normal σ h')) ∧ (c = 0 → P (kO (.exit 4) σ h'))) →
      P (rfS (itEach.next [P0 (N0 + 2) 0]) (roundS [65, 66] (g3_R5 call N) (g3_R6 call N) σ) kO σ n [.string s, I p] h) := by
  intro l2
  induction l2 with
  | nil =>
    intro pre p n h hl mk hn F hg hQ2 hk
    obtain ⟨n, rfl⟩ : ∃ q, n = q + 1 := ⟨n - 1, by simp at hn; omega⟩
    have hp : s.size ≤ p := by cases mk; assumption
    rw [rf_end (each_end hp h)]
    exact (hk h _ F (Nat.le_refl _) hg).1 (by rw [hl]; simp)
  | cons x l2 ih =>
    intro pre p n h hl mk hn F hg hQ2 hk
    obtain ⟨n, rfl⟩ : ∃ q, n = q + 1 := ⟨n - 1, by simp at hn; omega⟩
    have hlen : pre.length < l.length := by rw [hl]; simp
    cases mk with
    | cons hp mk =>
      rw [rf_go (each_go hp h), round2, g3_R5, hAsg_normal]
      have S1 := S.upd2 (a := 65) (b := 66) (I p) (R32 (Utf8.decode s p).1) (by omega) (by omega)
      generalize hσ : upd (upd σ 65 (I p)) 66 (R32 (Utf8.decode s p).1) = σ1 at S1
      have f65 : σ1 65 = I p := by rw [← hσ, upd_ne' _ _ (by omega), upd_eq']
      have f66 : σ1 66 = R32 (Utf8.decode s p).1 := by rw [← hσ, upd_eq']
      have f10 : σ1 10 = P0 Q 0 := by rw [← hσ, upd_ne' _ _ (by omega), upd_ne' _ _ (by omega)]; exact e10
      have S2 := S1.up (L := [(12, σ1 66), (11, σ1 65)]) (by simp)
      generalize hσ2 : updL σ1 [(12, σ1 66), (11, σ1 65)] = σ2 at S2
      have d12 : σ2 12 = R32 (Utf8.decode s p).1 := by rw [← hσ2, slot_eq, f66]
      have d11 : σ2 11 = I p := by rw [← hσ2, slot_ne (by omega), slot_eq, f65]
      have d10 : σ2 10 = P0 Q 0 := by rw [← hσ2, slot_ne (by omega), slot_ne (by omega), updL_nil, f10]
      obtain ⟨B, m1, m2, m3⟩ := F.mark hl
      have c1 : ¬ ((pre.length : Int) ≥ l.length) := by omega
      rw [g3_R6]
      simp only [S2.s6, S2.s7, d11, d12, ld_int F.g7, m1, cLenS_eq, cBin_geq, c1, decide_false, gd_false, cIdxS_slice, idx?_nat hlen, ob_some, cFieldAddr_ptr, m2, m3, cBin_neq, r_neq, decide_true, Bool.not_true, cPick_eq, Bool.false_eq_true, if_false]
      have e10' : ∀ L : List (Nat × Value), (∀ p ∈ L, p.1 ≠ 10) → updL σ2 L 10 = P0 Q 0 := by
        intro L
        induction L with
        | nil => intro _; exact d10
        | cons p L ih => intro hp; obtain ⟨a, b⟩ := p; rw [slot_ne (fun e => hp (a, b) List.mem_cons_self e.symm)]; exact ih fun q hq => hp q (List.mem_cons_of_mem _ hq)
      refine lpC7 call hll hN hQ hmk (by omega) (S2.up (by simp)) ?_ (e10' _ (by simp)) F hg hQ2 _ P ?_
      · simp only [slot_eq]
      · intro h' σ' F' hn' hg'
        rw [hRnd_normal, hRnd_exit]
        refine ⟨ih (pre ++ [(p, (Utf8.decode s p).2, (Utf8.decode s p).1)]) _ n h' (by rw [hl]; simp) mk (by simp at hn; omega) (by simpa using F') hg' (by omega) (fun h2 j F2 n2 g2 => hk h2 j F2 (by omega) g2), fun hc => (hk h' _ F' hn' hg').2 hc⟩

theorem lpPass (call : Call) {N : Nat} {s : ByteArray} {kk : Int} {l : List (Nat × Nat × Nat)} {N0 A : Nat} (hll : l.length ≤ 300) (hN : 300 < N) (hmk : Mk s 0 l) (K : KS) (P : Option Ans → Prop)
    (hk : ∀ (σ : St) (h : AHeap) (i : Int), SLt σ N0 A → FS h N0 A s kk l i → P (K (.exit 2) σ h)) :
    ∀ (m c n : Nat) (σ : St) (h : AHeap) (i : Int) (Q : Nat), 2 - c = m → c ≤ 2 → m < n → SLt σ N0 A → σ 10 = P0 Q 0 → A + 2 ≤ Q → Q < h.next → h.get Q = .cells [I c] 3 none false → FS h N0 A s kk l i →
      P (loopS (g3_L4 call N) n σ h K) := by
  intro m
  induction m with
  | zero =>
    intro c n σ h i Q hm hc hn S e10 hQ hQ2 hg F
    obtain ⟨n, rfl⟩ : ∃ q, n = q + 1 := ⟨n - 1, by omega⟩
    have c1 : ¬ ((c : Int) < 2) := by omega
    rw [loopS_succ, g3_L4]
    simp only [e10, ld_int hg, cBin_lss, c1, decide_false, cIf_eq, Bool.false_eq_true, if_false, loopK_exit]
    exact hk _ _ i (S.up (by simp)) F
  | succ m ih =>
    intro c n σ h i Q hm hc hn S e10 hQ hQ2 hg F
    obtain ⟨n, rfl⟩ : ∃ q, n = q + 1 := ⟨n - 1, by omega⟩
    have c1 : ((c : Int) < 2) := by omega
    rw [loopS_succ, g3_L4]
    obtain ⟨h2, hst, F2, hn2, hs2⟩ := F.st7 0
    have hg2 : h2.get Q = .cells [I c] 3 none false := by rw [hs2 Q (by omega)]; exact hg
    simp only [e10, ld_int hg, cBin_lss, c1, decide_true, cIf_eq, if_true, S.s7, S.s5]
    rw [hst, ld_any F2.g5, range_each F2]
    have S2 : SLt (updL σ [(64, .func (.func 15) #[] #[P0 (N0 + 2) 0]), (61, .bool true), (60, I c)]) N0 A := S.up (by simp)
    have e10' : updL σ [(64, .func (.func 15) #[] #[P0 (N0 + 2) 0]), (61, .bool true), (60, I c)] 10 = P0 Q 0 := by rw [slot_ne (by omega), slot_ne (by omega), slot_ne (by omega), updL_nil, e10]
    generalize hσ : updL σ [(64, .func (.func 15) #[] #[P0 (N0 + 2) 0]), (61, .bool true), (60, I c)] = σ2 at S2 e10'
    refine lpOut (c := (c : Int)) (l := l) call hll hN hQ hmk S2 e10' _ P l [] 0 N h2 rfl hmk (by omega) F2 hg2 (by omega) ?_
    intro h3 j F3 hn3 hg3
    -- behind a pass
    have tail : ∀ σ3 : St, SLt σ3 N0 A → σ3 135 = .bool false → σ3 10 = P0 Q 0 → P (g3_C14 call N σ3 h3 (loopK (g3_L4 call N) n K)) := by
      intro σ3 S3 e135 e10
      rw [g3_C14]
      simp only [e135, cIf_eq, Bool.false_eq_true, if_false, e10, ld_int hg3, cNew_eq]
      have F4 := F3.new (.cells [I 0] 3 none false)
      have hgJ : (h3.new (.cells [I 0] 3 none false)).get h3.next = .cells [I 0] 3 none false := by rw [AHeap.get_new, if_pos rfl]
      obtain ⟨h5, hst5, F5, hn5, hg5, _⟩ := st_own F4 (J := h3.next) F3.nx hgJ (c : Int)
      obtain ⟨h6, hst6, F6, hn6, hg6, _⟩ := st_own F5 (J := h3.next) F3.nx hg5 ((c : Int) + 1)
      rw [hst5, ld_int hg5, cBin_add _ _ _ (by omega) (by omega), hst6, loopK_normal]
      refine ih (c + 1) n _ h6 j h3.next (by omega) (by omega) (by omega) ?_ ?_ F3.nx (by rw [hn6, hn5]; simp) (by rw [hg6]; simp) F6
      · have S4 := S3.up (L := [(136, I c)]) (by simp)
        exact ⟨by simp only [slot_ne, ne_eq, Nat.reduceEqDiff, not_false_eq_true, updL_nil, S3.s3], by simp only [slot_ne, ne_eq, Nat.reduceEqDiff, not_false_eq_true, updL_nil, S3.s4], by simp only [slot_ne, ne_eq, Nat.reduceEqDiff, not_false_eq_true, updL_nil, S3.s5], by simp only [slot_ne, ne_eq, Nat.reduceEqDiff, not_false_eq_true, updL_nil, S3.s6], by simp only [slot_ne, ne_eq, Nat.reduceEqDiff, not_false_eq_true, updL_nil, S3.s7]⟩
      · simp only [slot_eq, slot_ne, ne_eq, Nat.reduceEqDiff, not_false_eq_true]
    have e10'' : ∀ L : List (Nat × Value), (∀ p ∈ L, p.1 ≠ 10) → updL σ2 L 10 = P0 Q 0 := by
      intro L
      induction L with
      | nil => intro _; exact e10'
      | cons p L ih => intro hp; obtain ⟨a, b⟩ := p; rw [slot_ne (fun e => hp (a, b) List.mem_cons_self e.symm)]; exact ih fun q hq => hp q (List.mem_cons_of_mem _ hq)
    have key : (c = 1 → j = l.length) → P (g3_C13 call N σ2 h3 (loopK (g3_L4 call N) n K)) := by
      intro hj
      rw [g3_C13]
      simp only [e10', ld_int hg3, cBin_eql]
      by_cases hc1 : c = 1
      · obtain ⟨a, hla⟩ := F3.len
        have d1 : ((c : Int) = 1) := by omega
        have hj := hj hc1
        simp only [d1, decide_true, gd_true, S2.s7, S2.s6, ld_int F3.g7, hla, cLenS_eq, cBin_neq, hj, Bool.not_true, cPick_eq, if_true]
        exact tail _ (S2.up (by simp)) (by simp only [slot_eq]) (e10'' _ (by simp))
      · have d1 : ¬ ((c : Int) = 1) := by omega
        simp only [d1, decide_false, gd_false, cPick_eq, Bool.false_eq_true, if_false]
        exact tail _ (S2.up (by simp)) (by simp only [slot_eq]) (e10'' _ (by simp))
    refine ⟨fun hj => ?_, fun hc0 => ?_⟩
    · rw [hBlk_normal, hSeq_normal]
      exact key fun _ => hj
    · rw [hBlk_same, hSeq_normal]
      exact key fun e => by omega
end Go.Amb
end

section
/- UtfRange, whole, in the abstract heap. -/
set_option linter.unusedVariables false
set_option linter.unusedSimpArgs false
set_option maxRecDepth 100000
namespace Go.Amb
open Go.Proofs

open Classical in
noncomputable def X4 : Call := fun f args h => if f = 4 ∧ args = [] ∧ Tab h then some (.ret (.bool true) h) else none
theorem ev4 (n : Nat) {h : AHeap} (hT : Tab h) : evF UE X4 (n + 1) 4 [] h = some (.ret (.bool true) h) := by
  rw [evF_X _ _ _ _ _ _ (by kernel_rfl)]
  unfold X4
  rw [if_pos ⟨rfl, rfl, hT⟩]
theorem res4 (σ : St) (h : AHeap) (f : List Value → Option Ans) : evResS UE σ h [.cell 4 4] f = ob (ptr? (σ 4)) fun p => ob p fun p => h.ld1 p.block p.off .bool fun v => f [v] := by kernel_rfl
theorem rangeStr (h : AHeap) (f : K2) (s : ByteArray) : opRangeR UE idR h f 9 (.const (.string s)) = f (P0 h.next 0) (h.new (.iter s 0)) := by kernel_rfl
theorem eqFn (a c : Array Value) (K : Amb.K1) : cBin UE .eql 24 (.func (.func 15) a c) .nilFunc K = K (.bool false) := by kernel_rfl
theorem st_bool {h : AHeap} {a : Nat} {e : TypeId} {v w : Value} (hg : h.get a = .cells [v] e none false) (h1 : w.cells.toList = [w]) (h2 : AHeap.one? w = true) (K : AHeap → Option Ans) : cStore 1 (P0 a 0) w h K = K (h.set a (.cells [w] e none false)) := by
  rw [cStore_ptr 1 _ _ w K (by rw [h1]; rfl), h1, st_of hg (Nat.le_refl 1) (by simp [h2])]
  rfl
/-- The answer 'true', stored and handed back. -/
theorem fin4 {σ : St} {h : AHeap} {a : Nat} {v : Value} (e4 : σ 4 = P0 a 0) (hg : h.get a = .cells [v] 4 none false) :
    ∃ h', cStore 1 (P0 a 0) (.bool true) h (fun h23 => finS UE [.cell 4 4] .ret σ h23) = some (.ret (.bool true) h') := by
  refine ⟨h.set a (.cells [.bool true] 4 none false), ?_⟩
  rw [st_bool hg rfl rfl, finS_ret, res4, e4]
  show (h.set a (.cells [.bool true] 4 none false)).ld1 a 0 .bool _ = _
  rw [ld1_eq, cell?_of (AHeap.get_set_same _ _ _)]
  rfl

theorem ev3 (N : Nat) (hN : 300 < N) (s : ByteArray) (kk : Int) {h : AHeap} (hT : Tab h) (h2N : 2 ≤ h.next) : ∃ h', evF UE X4 (N + 11) 3 [.string s, I kk] h = some (.ret (.bool true) h') := by
  rw [evF_B _ _ _ _ _ _ (by kernel_rfl), g3_eq, g3]
  simp only [st0_zero, st0_succ, cNew_eq, cLenStr_eq, cBin_gtr, cIf_eq]
  by_cases hsz : s.size > 300
  · have c1 : ((s.size : Int) > 300) := by omega
    simp only [c1, decide_true, if_true]
    have hT2 : Tab ((h.new (.cells (I kk).cells.toList 3 none false)).new (.cells [.bool false] 4 none false)) := by
      obtain ⟨e0, e1, x, y⟩ := hT
      refine ⟨e0, e1, ?_, ?_⟩
      · rw [AHeap.get_new, if_neg (by simp), AHeap.get_new, if_neg (by omega)]; exact x
      · rw [AHeap.get_new, if_neg (by simp; omega), AHeap.get_new, if_neg (by omega)]; exact y
    rw [cCall_ret (ev4 (N + 9) hT2)]
    simp only [asRetL_one, asTIL_one, asLK_bool]
    refine fin4 ?_ (v := .bool false) ?_
    · simp only [slot_eq, slot_ne, ne_eq, Nat.reduceEqDiff, not_false_eq_true]
    · rw [AHeap.get_new, if_pos rfl]
  · have c1 : ¬ ((s.size : Int) > 300) := by omega
    simp only [c1, decide_false, Bool.false_eq_true, if_false]
    generalize hh2 : (h.new (.cells (I kk).cells.toList 3 none false)).new (.cells [.bool false] 4 none false) = h2
    have n2 : h2.next = h.next + 2 := by rw [← hh2]; rfl
    have a2 : h2.get h.next = .cells [I kk] 3 none false := by rw [← hh2, AHeap.get_new, if_neg (by simp), AHeap.get_new, if_pos rfl]; rfl
    have b2 : h2.get (h.next + 1) = .cells [.bool false] 4 none false := by rw [← hh2, AHeap.get_new, if_pos (by simp)]
    have e1 : (h.new (.cells (I kk).cells.toList 3 none false)).next = h.next + 1 := rfl
    rw [cCall_ret (ev5 X4 (N + 9) s h2), e1]
    simp only [asRetL_one, asTIL_one, asLK_any, cNew_eq]
    generalize hh4 : (h2.new (.cells [.string s] 9 none false)).new (.cells [.nilFunc] 24 none false) = h4
    have n4 : h4.next = h.next + 4 := by rw [← hh4]; simp [n2]
    have e3 : (h2.new (.cells [.string s] 9 none false)).next = h.next + 3 := by simp [n2]
    have k4 : ∀ q, q < h.next + 2 → h4.get q = h2.get q := fun q hq => by rw [← hh4, AHeap.get_new, if_neg (by simp [n2]; omega), AHeap.get_new, if_neg (by omega)]
    have c4 : h4.get (h.next + 2) = .cells [.string s] 9 none false := by rw [← hh4, AHeap.get_new, if_neg (by simp [n2]), AHeap.get_new, if_pos n2.symm]
    have d4 : h4.get (h.next + 3) = .cells [.nilFunc] 24 none false := by rw [← hh4, AHeap.get_new, if_pos (by simp [n2])]
    rw [e3, n2, st_bool d4 rfl rfl]
    generalize hh5 : h4.set (h.next + 3) (.cells [.func (.func 15) #[] #[P0 (h.next + 2) 0]] 24 none false) = h5
    have n5 : h5.next = h.next + 4 := by rw [← hh5]; simp [n4]
    have k5 : ∀ q, q < h.next + 3 → h5.get q = h4.get q := fun q hq => by rw [← hh5, AHeap.get_set, if_neg (by omega)]
    have d5 : h5.get (h.next + 3) = .cells [.func (.func 15) #[] #[P0 (h.next + 2) 0]] 24 none false := by rw [← hh5, AHeap.get_set, if_pos rfl]
    rw [ld_any d5, eqFn]
    simp only [cIf_eq, Bool.false_eq_true, if_false]
    obtain ⟨v, h6, l, e6, mk, M, U⟩ := ev6 X4 (N + 1) (by omega) (s := s) (by omega) h5
    rw [cCall_ret e6]
    have hv : ∃ a : Option Addr, v = .slice a l.length l.length := by
      rcases M with ⟨rfl, rfl⟩ | ⟨B, rfl, _⟩
      · exact ⟨none, rfl⟩
      · exact ⟨_, rfl⟩
    obtain ⟨av, hva⟩ := hv
    have hlk : ∀ f : Amb.K1, asLK .slc v f = f v := fun f => by rw [hva]; rfl
    simp only [asRetL_one, asTIL_one, hlk, cNew_eq]
    have n6 : h.next + 4 ≤ h6.next := by have := U.next; omega
    have k6 : ∀ q, q < h.next + 4 → h6.get q = h5.get q := fun q hq => U.same q (by omega)
    generalize hA : h6.next = A at *
    have d7 : (h6.new (.cells [.slice none 0 0] 26 none false)).get A = .cells [.slice none 0 0] 26 none false := by rw [AHeap.get_new, if_pos hA.symm]
    rw [st_bool d7 (by rw [hva]; rfl) (by rw [hva]; rfl)]
    generalize hh8 : (h6.new (.cells [.slice none 0 0] 26 none false)).set A (.cells [v] 26 none false) = h8
    have n8 : h8.next = A + 1 := by rw [← hh8]; simp [hA]
    have a8 : h8.get A = .cells [v] 26 none false := by rw [← hh8, AHeap.get_set, if_pos rfl]
    have k8 : ∀ q, q < A → h8.get q = h6.get q := fun q hq => by rw [← hh8, AHeap.get_set, if_neg (by omega), AHeap.get_new, if_neg (by omega)]
    rw [n8]
    have d9 : (h8.new (.cells [I 0] 3 none false)).get (A + 1) = .cells [I 0] 3 none false := by rw [AHeap.get_new, if_pos n8.symm]
    rw [st_bool d9 rfl rfl, rangeStr]
    generalize hh10 : (h8.new (.cells [I 0] 3 none false)).set (A + 1) (.cells [I 0] 3 none false) = h10
    have n10 : h10.next = A + 2 := by rw [← hh10]; simp [n8]
    have k10 : ∀ q, q < A + 1 → h10.get q = h8.get q := fun q hq => by rw [← hh10, AHeap.get_set, if_neg (by omega), AHeap.get_new, if_neg (by omega)]
    have a10 : h10.get (A + 1) = .cells [I 0] 3 none false := by rw [← hh10, AHeap.get_set, if_pos rfl]
    rw [n10]
    have low : ∀ q, q < h.next + 4 → h10.get q = h5.get q := fun q hq => by rw [k10 q (by omega), k8 q (by omega), k6 q hq]
    have F10 : FS h10 h.next A s kk l 0 := by
      refine ⟨n6, by omega, ?_, ?_, ?_, ?_, ⟨v, by rw [k10 A (by omega)]; exact a8, M.imp id fun ⟨B, x, y, z, w⟩ => ⟨B, x, ?_, ?_, ?_⟩⟩, a10, h2N, ?_⟩
      · rw [low _ (by omega), k5 _ (by omega), k4 _ (by omega)]; exact a2
      · rw [low _ (by omega), k5 _ (by omega), k4 _ (by omega)]; exact b2
      · rw [low _ (by omega), k5 _ (by omega)]; exact c4
      · rw [low _ (by omega)]; exact d5
      · obtain ⟨e0, e1, x, y⟩ := hT
        have k2 : ∀ q, q < 2 → h10.get q = h.get q := fun q hq => by
          rw [low q (by omega), k5 q (by omega), k4 q (by omega), ← hh2, AHeap.get_new, if_neg (by simp; omega), AHeap.get_new, if_neg (by omega)]
        exact ⟨e0, e1, by rw [k2 0 (by omega)]; exact x, by rw [k2 1 (by omega)]; exact y⟩
      · have hBA : B < A := by omega
        rw [k10 B (by omega), k8 B hBA]; exact y
      · omega
      · omega
    have hlen : l.length ≤ 300 := by
      have key : ∀ (p : Nat) (l : List (Nat × Nat × Nat)), Mk s p l → p + l.length ≤ max p s.size := by
        intro p l mk
        induction mk with
        | stop h => simp; omega
        | cons h k ih =>
          rename_i p l
          have := width_pos1 s p
          simp only [List.length_cons]
          omega
      have := key 0 l mk
      omega
    refine lpA (evF UE X4 (N + 10)) (N + 10) (l := l) (s := s) (kk := kk) (N0 := h.next) (A := A) (by omega) _ (fun x => ∃ h', x = some (.ret (.bool true) h')) ?_ l [] 0 (N + 10) _ _ rfl mk (by omega) ?_ ?_ (by simpa using F10.new (.iter s 0)) (by simp [n10]) (by rw [AHeap.get_new, if_pos n10.symm])
    · intro σ h12 S F hx
      rw [hBlk_same, hSeq_normal, g3_C3]
      obtain ⟨a, hla⟩ := F.len
      simp only [S.s7, S.s6, S.s4, ld_int F.g7, hla, cLenS_eq, cBin_neq, decide_true, Bool.not_true, cIf_eq, Bool.false_eq_true, if_false, cNew_eq]
      have F13 := F.new (.cells [I 0] 3 none false)
      have hgQ : (h12.new (.cells [I 0] 3 none false)).get h12.next = .cells [I 0] 3 none false := by rw [AHeap.get_new, if_pos rfl]
      obtain ⟨h14, hst, F14, n14, g14, _⟩ := st_own F13 (J := h12.next) F.nx hgQ 0
      rw [hst]
      refine lpPass (evF UE X4 (N + 10)) (N := N + 10) (l := l) (s := s) (kk := kk) (N0 := h.next) (A := A) hlen (by omega) mk _ (fun x => ∃ h', x = some (.ret (.bool true) h')) ?_ 2 0 (N + 10) _ h14 _ h12.next rfl (by omega) (by omega) ?_ ?_ F.nx (by rw [n14]; simp) (by simpa using g14) F14
      · intro σ h15 i S F
        rw [hBlk_same, hSeq_normal, g3_C16, cCall_ret (ev4 (N + 9) F.tb)]
        simp only [asRetL_one, asTIL_one, asLK_bool, S.s4]
        exact fin4 (S.up (L := [(137, .bool true)]) (by simp)).s4 F.g4
      · have S4 := S
        exact ⟨by simp only [slot_ne, ne_eq, Nat.reduceEqDiff, not_false_eq_true, updL_nil, S4.s3], by simp only [slot_ne, ne_eq, Nat.reduceEqDiff, not_false_eq_true, updL_nil, S4.s4], by simp only [slot_ne, ne_eq, Nat.reduceEqDiff, not_false_eq_true, updL_nil, S4.s5], by simp only [slot_ne, ne_eq, Nat.reduceEqDiff, not_false_eq_true, updL_nil, S4.s6], by simp only [slot_ne, ne_eq, Nat.reduceEqDiff, not_false_eq_true, updL_nil, S4.s7]⟩
      · simp only [slot_eq]
    · exact ⟨by simp only [slot_eq, slot_ne, ne_eq, Nat.reduceEqDiff, not_false_eq_true], by simp only [slot_eq, slot_ne, ne_eq, Nat.reduceEqDiff, not_false_eq_true], by simp only [slot_eq, slot_ne, ne_eq, Nat.reduceEqDiff, not_false_eq_true], by simp only [slot_eq, slot_ne, ne_eq, Nat.reduceEqDiff, not_false_eq_true], by simp only [slot_eq, slot_ne, ne_eq, Nat.reduceEqDiff, not_false_eq_true]⟩
    · simp only [slot_eq]
end Go.Amb
end
