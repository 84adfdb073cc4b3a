/- Part of the proof by the abstract machine: no claim of its own. -/
import Derived.Test.YtnfncnchbogncaaKC
import Derived.Test.YtnfncnchbogncaaRB
import Derived.Test.YtnfncnchbogncaaKA
set_option linter.unusedSimpArgs false
set_option linter.unusedVariables false
set_option linter.unnecessarySimpa false
set_option linter.unusedSectionVars false
section
/- Rows of bits. -/
set_option linter.unusedVariables false
set_option linter.unusedSimpArgs false
namespace Go.Amb
open Go.Proofs

abbrev U (n : Nat) : Value := .int .u64 n
theorem quo64 {i : Nat} (h : i < 64) (K1 : K1) : cBin EK .quo 3 (I i) (I 64) K1 = K1 (I 0) := by
  show K1 (.int .i64 (IntKind.i64.wrap ((i : Int).tdiv 64))) = _
  have : (i : Int).tdiv 64 = 0 := by
    rw [Int.tdiv_eq_ediv_of_nonneg (by omega)]; omega
  rw [this]; rfl
theorem rem64 {i : Nat} (h : i < 64) (K1 : K1) : cBin EK .rem 3 (I i) (I 64) K1 = K1 (I i) := by
  show K1 (.int .i64 ((i : Int).tmod 64)) = _
  rw [Int.tmod_eq_emod_of_nonneg (by omega)]
  rw [show (i : Int) % 64 = (i : Int) by omega]
theorem shrU {w i : Nat} (h : i < 64) (K1 : K1) : cBin EK .shr 167 (U w) (U i) K1 = K1 (U (w / 2 ^ i)) := by
  have e : cBin EK .shr 167 (U w) (U i) K1 = ob (shOp .shr .u64 (w : Int) (i : Int)) K1 := rfl
  rw [e]
  unfold shOp
  have h0 : decide ((i : Int) < 0) = false := by simp
  rw [h0]
  simp only [ob_some]
  have : (IntKind.u64).bits = 64 := rfl
  rw [this, Int.toNat_natCast, Nat.min_eq_left (by omega), Int.fdiv_eq_ediv_of_nonneg _ (by exact_mod_cast Nat.zero_le (2 ^ i))]
  congr 2
theorem shlU {i : Nat} (h : i < 64) (K1 : K1) : cBin EK .shl 167 (U 1) (U i) K1 = K1 (U (2 ^ i)) := by
  have e : cBin EK .shl 167 (U 1) (U i) K1 = ob (shOp .shl .u64 ((1 : Nat) : Int) (i : Int)) K1 := rfl
  rw [e]
  unfold shOp
  have h0 : decide ((i : Int) < 0) = false := by simp
  rw [h0]
  simp only [ob_some]
  have : (IntKind.u64).bits = 64 := rfl
  have hp : 2 ^ i < 2 ^ 64 := Nat.pow_lt_pow_right (by decide) h
  rw [this, Int.toNat_natCast, Nat.min_eq_left (by omega), Go.IntWalk.u64_in _ (by
    have h2 : ((1 : Nat) : Int) * 2 ^ i = ((2 ^ i : Nat) : Int) := by simp
    rw [h2]
    have h3 : 2 ^ i ≤ 18446744073709551615 := by have : (2 : Nat) ^ 64 = 18446744073709551616 := by decide
                                                 omega
    exact ⟨Int.natCast_nonneg _, Int.ofNat_le.2 h3⟩)]
  congr 2
  simp
theorem orU {a b : Nat} (ha : a < 2 ^ 64) (hb : b < 2 ^ 64) (K1 : K1) : cBin EK .or 167 (U a) (U b) K1 = K1 (U (a ||| b)) := by
  have e : cBin EK .or 167 (U a) (U b) K1 = K1 (.int .u64 (IntKind.u64.wrap (BitVec.ofInt 64 (a : Int) ||| BitVec.ofInt 64 (b : Int)).toNat)) := rfl
  rw [e]
  have h1 : (BitVec.ofInt 64 (a : Int) ||| BitVec.ofInt 64 (b : Int)).toNat = a ||| b := by
    rw [BitVec.toNat_or]
    simp only [BitVec.ofInt_natCast, BitVec.toNat_ofNat]
    rw [Nat.mod_eq_of_lt ha, Nat.mod_eq_of_lt hb]
  rw [h1, Go.IntWalk.u64_in _ (by have := Nat.or_lt_two_pow ha hb; omega)]
theorem and1U {a : Nat} (ha : a < 2 ^ 64) (K1 : K1) : cBin EK .and 167 (U a) (U 1) K1 = K1 (U (a % 2)) := by
  have e : cBin EK .and 167 (U a) (U 1) K1 = K1 (.int .u64 (IntKind.u64.wrap (BitVec.ofInt 64 (a : Int) &&& BitVec.ofInt 64 ((1 : Nat) : Int)).toNat)) := rfl
  rw [e]
  have h1 : (BitVec.ofInt 64 (a : Int) &&& BitVec.ofInt 64 ((1 : Nat) : Int)).toNat = a % 2 := by
    rw [BitVec.toNat_and]
    simp only [BitVec.ofInt_natCast, BitVec.toNat_ofNat]
    rw [Nat.mod_eq_of_lt ha, show 1 % 2 ^ 64 = 1 by decide, Nat.and_one_is_mod]
  rw [h1, Go.IntWalk.u64_in _ (by omega)]
theorem eqlU (a b : Nat) (K1 : K1) : cBin EK .eql 167 (U a) (U b) K1 = K1 (.bool (decide (a = b))) := by
  show K1 (.bool ((a : Int) == (b : Int))) = _
  congr 2
  by_cases h : a = b
  · simp [h]
  · have : ¬ (a : Int) = (b : Int) := by omega
    simp [h, this]

theorem ev77 (X : Call) (n : Nat) {h : AHeap} {R w i : Nat} (hR : h.cell? R 0 = some (U w)) (hw : w < 2 ^ 64) (hi : i < 64) :
    evF EK X (n + 1) 77 [S0 R 0 1 1, I i] h = some (.ret (.bool (w.testBit i)) h) := by
  rw [evF_B _ _ _ _ _ _ (by kernel_rfl), g77_eq, g77]
  have x1 : idx? (0 : Int) 1 = some 0 := rfl
  have aU : ∀ f : K1, asLK (.int .u64) (U w) f = f (U w) := fun f => rfl
  have hd : w / 2 ^ i < 2 ^ 64 := Nat.lt_of_le_of_lt (Nat.div_le_self _ _) hw
  simp only [st0_zero, st0_succ]
  rw [quo64 hi]
  simp only [cIdxS_slice, x1, ob_some, Nat.zero_mul, Nat.add_zero, cLoad1_ptr, ld1_eq, hR, aU]
  rw [rem64 hi, conv_iu _ _ _ (by omega) (by omega), shrU hi]
  rw [show (Value.int .u64 1) = U 1 from rfl, and1U hd, eqlU]
  have : decide (w / 2 ^ i % 2 = 1) = w.testBit i := by
    rw [Nat.testBit_eq_decide_div_mod_eq]
  rw [this]
  simp [updL_cons]
theorem stU {h : AHeap} {R w w' : Nat} (hR : h.get R = .cells [U w] 167 none false) (f : AHeap → Option Ans) : cStore 1 (P0 R 0) (U w') h f = f (h.set R (.cells [U w'] 167 none false)) := by
  have hst : h.st R 0 [U w'] = some (h.set R (.cells [U w'] 167 none false)) := by
    rw [st_of hR (by simp) rfl]; rfl
  rw [cStore_ptr _ _ _ _ _ (by simp [Value.cells])]
  simp only [Value.cells, List.toList_toArray, hst, ob_some]
theorem ev115 (X : Call) (n : Nat) {h : AHeap} {R w i : Nat} (hR : h.get R = .cells [U w] 167 none false) (hw : w < 2 ^ 64) (hi : i < 64) :
    evF EK X (n + 1) 115 [S0 R 0 1 1, I i] h = some (.ret (.tuple #[]) (h.set R (.cells [U (w ||| 2 ^ i)] 167 none false))) := by
  rw [evF_B _ _ _ _ _ _ (by kernel_rfl), g115_eq, g115]
  have x1 : idx? (0 : Int) 1 = some 0 := rfl
  have aU : ∀ f : K1, asLK (.int .u64) (U w) f = f (U w) := fun f => rfl
  have hc : h.cell? R 0 = some (U w) := by rw [cell?_of hR]; rfl
  have hp : 2 ^ i < 2 ^ 64 := Nat.pow_lt_pow_right (by decide) hi
  simp only [st0_zero, st0_succ]
  rw [quo64 hi, quo64 hi]
  simp only [cIdxS_slice, x1, ob_some, Nat.zero_mul, Nat.add_zero, cLoad1_ptr, ld1_eq, hc, aU]
  rw [rem64 hi, conv_iu _ _ _ (by omega) (by omega), show (Value.int .u64 1) = U 1 from rfl, shlU hi, orU hw hp]
  rw [stU hR]
  rfl
theorem ev139 (X : Call) (n : Nat) {h : AHeap} {R w R' w' : Nat} (hR : h.get R = .cells [U w] 167 none false) (hR' : h.get R' = .cells [U w'] 167 none false) (hw : w < 2 ^ 64) (hw' : w' < 2 ^ 64) :
    evF EK X (n + 3) 139 [S0 R 0 1 1, S0 R' 0 1 1] h = some (.ret (.tuple #[]) (h.set R (.cells [U (w ||| w')] 167 none false))) := by
  rw [evF_B _ _ _ _ _ _ (by kernel_rfl), g139_eq, g139]
  have x1 : idx? (0 : Int) 1 = some 0 := rfl
  have aU : ∀ (w : Nat) (f : K1), asLK (.int .u64) (U w) f = f (U w) := fun w f => rfl
  have hc : h.cell? R 0 = some (U w) := by rw [cell?_of hR]; rfl
  have hc' : h.cell? R' 0 = some (U w') := by rw [cell?_of hR']; rfl
  rw [loopS_succ, g139_L1]
  simp only [updL_cons, updL_nil, ↓reduceIte, Nat.reduceEqDiff, st0_zero, st0_succ, cLenS_eq, cBin_lss, show ((0 : Int) < ((1 : Nat) : Int)) by decide, decide_true, cIf_eq, if_true, cIdxS_slice, x1, ob_some, Nat.zero_mul, Nat.add_zero, rety_eq, dr_ret, cLoad1_ptr, ld1_eq, hc, hc', aU]
  rw [orU hw hw']
  simp only [rety_eq, dr_ret, cIdxS_slice, x1, ob_some, Nat.zero_mul, Nat.add_zero]
  rw [stU hR]
  simp only [rety_eq, dr_ret]
  rw [cBin_add _ _ _ (by omega) (by omega), loopK_normal, loopS_succ, g139_L1]
  simp only [updL_cons, updL_nil, ↓reduceIte, Nat.reduceEqDiff, st0_zero, st0_succ, cLenS_eq, cBin_lss, show ¬ ((0 : Int) + 1 < ((1 : Nat) : Int)) by decide, decide_false, cIf_eq, Bool.false_eq_true, if_false, loopK_exit]
  simp

/-! ### Matrices -/
structure Mat (lo : Nat) (h : AHeap) (v : Value) (A : List Nat) : Prop where
  ne : A ≠ []
  w : ∀ x ∈ A, x < 2 ^ 64
  ex : ∃ (O : Nat) (Rs : List Nat), v = S0 O 0 A.length A.length ∧ lo ≤ O ∧ O < h.next ∧ h.get O = .cells (Rs.map fun R => S0 R 0 1 1) 120 (some 1) false ∧ Rs.length = A.length ∧ Rs.Nodup ∧
    ∀ (i R x : Nat), Rs[i]? = some R → A[i]? = some x → lo ≤ R ∧ R < h.next ∧ R ≠ O ∧ h.get R = .cells [U x] 167 none false
theorem Mat.ext {lo : Nat} {h h' : AHeap} {v : Value} {A : List Nat} (M : Mat lo h v A) (E : Exh h h') : Mat lo h' v A := by
  obtain ⟨O, Rs, h1, h2, h3, h4, h5, h6, h7⟩ := M.ex
  refine ⟨M.ne, M.w, O, Rs, h1, h2, Nat.lt_of_lt_of_le h3 E.next, by rw [E.keep O h3]; exact h4, h5, h6, fun i R x a b => ?_⟩
  obtain ⟨q1, q2, q3, q4⟩ := h7 i R x a b
  exact ⟨q1, Nat.lt_of_lt_of_le q2 E.next, q3, by rw [E.keep R q2]; exact q4⟩
theorem Mat.lower {lo lo' : Nat} {h : AHeap} {v : Value} {A : List Nat} (M : Mat lo h v A) (hl : lo' ≤ lo) : Mat lo' h v A := by
  obtain ⟨O, Rs, h1, h2, h3, h4, h5, h6, h7⟩ := M.ex
  exact ⟨M.ne, M.w, O, Rs, h1, by omega, h3, h4, h5, h6, fun i R x a b => by obtain ⟨q1, q2⟩ := h7 i R x a b; exact ⟨by omega, q2⟩⟩
/-- A matrix whose rows are about to be changed. -/
structure MatR (lo : Nat) (h : AHeap) (v : Value) (A : List Nat) (O : Nat) (Rs : List Nat) : Prop where
  w : ∀ x ∈ A, x < 2 ^ 64
  v : v = S0 O 0 A.length A.length
  o : lo ≤ O ∧ O < h.next
  g : h.get O = .cells (Rs.map fun R => S0 R 0 1 1) 120 (some 1) false
  len : Rs.length = A.length
  nd : Rs.Nodup
  r : ∀ (i R x : Nat), Rs[i]? = some R → A[i]? = some x → lo ≤ R ∧ R < h.next ∧ R ≠ O ∧ h.get R = .cells [U x] 167 none false
theorem Mat.toR {lo : Nat} {h : AHeap} {v : Value} {A : List Nat} (M : Mat lo h v A) : ∃ O Rs, MatR lo h v A O Rs := by
  obtain ⟨O, Rs, h1, h2, h3, h4, h5, h6, h7⟩ := M.ex
  exact ⟨O, Rs, M.w, h1, ⟨h2, h3⟩, h4, h5, h6, h7⟩
theorem MatR.toM {lo : Nat} {h : AHeap} {v : Value} {A : List Nat} {O : Nat} {Rs : List Nat} (M : MatR lo h v A O Rs) (ne : A ≠ []) : Mat lo h v A := ⟨ne, M.w, O, Rs, M.v, M.o.1, M.o.2, M.g, M.len, M.nd, M.r⟩
theorem MatR.ext {lo : Nat} {h h' : AHeap} {v : Value} {A : List Nat} {O : Nat} {Rs : List Nat} (M : MatR lo h v A O Rs) (E : Exh h h') : MatR lo h' v A O Rs := by
  refine ⟨M.w, M.v, ⟨M.o.1, Nat.lt_of_lt_of_le M.o.2 E.next⟩, by rw [E.keep O M.o.2]; exact M.g, M.len, M.nd, fun i R x a b => ?_⟩
  obtain ⟨q1, q2, q3, q4⟩ := M.r i R x a b
  exact ⟨q1, Nat.lt_of_lt_of_le q2 E.next, q3, by rw [E.keep R q2]; exact q4⟩
theorem MatR.row {lo : Nat} {h : AHeap} {v : Value} {A : List Nat} {O : Nat} {Rs : List Nat} (M : MatR lo h v A O Rs) {i : Nat} (hi : i < A.length) :
    ∃ R, Rs[i]? = some R ∧ h.cell? O i = some (S0 R 0 1 1) ∧ h.get R = .cells [U A[i]] 167 none false ∧ A[i] < 2 ^ 64 := by
  have hr : i < Rs.length := by rw [M.len]; exact hi
  have e1 : Rs[i]? = some Rs[i] := List.getElem?_eq_getElem hr
  obtain ⟨_, _, _, q⟩ := M.r i _ _ e1 (List.getElem?_eq_getElem hi)
  refine ⟨Rs[i], e1, ?_, q, M.w _ (List.getElem_mem hi)⟩
  rw [cell?_of M.g, List.getElem?_map, e1]; rfl
theorem MatR.upd {lo : Nat} {h : AHeap} {v : Value} {A : List Nat} {O : Nat} {Rs : List Nat} (M : MatR lo h v A O Rs) {i R w : Nat} (hi : Rs[i]? = some R) (hw : w < 2 ^ 64) :
    MatR lo (h.set R (.cells [U w] 167 none false)) v (A.set i w) O Rs := by
  have hr : i < Rs.length := (List.getElem?_eq_some_iff.1 hi).1
  have hA : i < A.length := by rw [← M.len]; exact hr
  obtain ⟨r1, r2, r3, _⟩ := M.r i R _ hi (List.getElem?_eq_getElem hA)
  refine ⟨fun x hx => ?_, by simpa using M.v, M.o, by rw [AHeap.get_set_ne _ _ (fun e => r3 e.symm)]; exact M.g, by simp [M.len], M.nd, fun j R' x a b => ?_⟩
  · rcases List.mem_or_eq_of_mem_set hx with h | rfl
    · exact M.w x h
    · exact hw
  · by_cases e : j = i
    · subst e
      rw [hi] at a; cases a
      rw [List.getElem?_set_self hA] at b; cases b
      exact ⟨r1, r2, r3, AHeap.get_set_same _ _ _⟩
    · rw [List.getElem?_set_ne (fun q => e q.symm)] at b
      obtain ⟨q1, q2, q3, q4⟩ := M.r j R' x a b
      have hne : R' ≠ R := by
        intro q
        subst q
        have hj : j < Rs.length := (List.getElem?_eq_some_iff.1 a).1
        have e1 := (List.getElem?_eq_some_iff.1 a).2
        have e2 := (List.getElem?_eq_some_iff.1 hi).2
        have hp := List.pairwise_iff_getElem.1 M.nd
        rcases Nat.lt_or_gt_of_ne e with q | q
        · exact hp j i hj hr q (e1.trans e2.symm)
        · exact hp i j hr hj q (e2.trans e1.symm)
      exact ⟨q1, q2, q3, by rw [AHeap.get_set_ne _ _ hne]; exact q4⟩
/-- Older things stay as they are. -/
theorem MatR.extSet {h0 h : AHeap} {v : Value} {A : List Nat} {O : Nat} {Rs : List Nat} (M : MatR h0.next h v A O Rs) (E : Exh h0 h) {i R : Nat} (hi : Rs[i]? = some R) (o : AObj) : Exh h0 (h.set R o) := by
  have hr : i < Rs.length := (List.getElem?_eq_some_iff.1 hi).1
  have hA : i < A.length := by rw [← M.len]; exact hr
  obtain ⟨r1, _⟩ := M.r i R _ hi (List.getElem?_eq_getElem hA)
  exact ⟨E.next, fun j hj => by rw [AHeap.get_set_ne _ _ (by omega)]; exact E.keep j hj⟩

/-! ### Rows that have nothing -/
theorem ev114_loop (call : Call) (lf : Nat) {h0 : AHeap} {k : Nat} (hk : k ≤ 63) (hk0 : 0 < k) (P : Option Ans → Prop) (K : KS)
    (k1 : ∀ σ' h' v, Exh h0 h' → Mat h0.next h' v (List.replicate k 0) → σ' 3 = v → P (K (.exit 0) σ' h')) :
    ∀ (m i n : Nat) (σ : St) (h : AHeap) (v : Value), Exh h0 h → (i = 0 ∧ v = nilS ∨ ∃ O Rs, 0 < i ∧ MatR h0.next h v (List.replicate i 0) O Rs) → k - i = m → i ≤ k → m < n → σ 0 = I k → σ 3 = v → σ 4 = I i →
    P (loopS (g114_L1 call lf) n σ h K) := by
  intro m
  induction m with
  | zero =>
    intro i n σ h v E H hm hi hn s0 s3 s4
    obtain ⟨n, rfl⟩ : ∃ q, n = q + 1 := ⟨n - 1, by omega⟩
    have : i = k := by omega
    subst this
    rw [loopS_succ, g114_L1]
    simp only [s0, s4, cBin_lss, Int.lt_irrefl, decide_false, cIf_eq, Bool.false_eq_true, if_false, loopK_exit]
    rcases H with ⟨h1, _⟩ | ⟨O, Rs, _, M⟩
    · omega
    · exact k1 _ h v E (M.toM (by intro e; have := congrArg List.length e; simp at this; omega)) (by simp [updL_cons, s3])
  | succ m ih =>
    intro i n σ h v E H hm hi hn s0 s3 s4
    obtain ⟨n, rfl⟩ : ∃ q, n = q + 1 := ⟨n - 1, by omega⟩
    have h1' : ((i : Int) < (k : Int)) := by omega
    rw [loopS_succ, g114_L1]
    simp only [s0, s3, s4, cBin_lss, h1', decide_true, cIf_eq, if_true]
    rw [quo64 (by omega), cBin_add _ _ _ (by omega) (by omega)]
    rw [show (0 : Int) + 1 = ((1 : Nat) : Int) from rfl, cMakeS_eq (by decide) (by decide)]
    have gR : (h.new (.cells (repL [.int .u64 0] 1) 167 none false)).get h.next = .cells [U 0] 167 none false := get_new_self _ _
    have nR : (h.new (.cells (repL [.int .u64 0] 1) 167 none false)).next = h.next + 1 := rfl
    have E1 := Exh.new h (.cells (repL [.int .u64 0] 1) 167 none false)
    generalize h.new (.cells (repL [.int .u64 0] 1) 167 none false) = h1 at *
    have hf1 : fillP [(0, 1, S0 h.next 0 1 1)] [.slice none 0 0] = some [S0 h.next 0 1 1] := rfl
    simp only [cBuildS_eq, hf1, ob_some]
    have gT : (h1.new (.cells [S0 h.next 0 1 1] 120 none false)).get h1.next = .cells [S0 h.next 0 1 1] 120 none false := get_new_self _ _
    have nT : (h1.new (.cells [S0 h.next 0 1 1] 120 none false)).next = h.next + 2 := by simp [nR]
    have E2 := E1.trans (Exh.new h1 (.cells [S0 h.next 0 1 1] 120 none false))
    have gR2 : (h1.new (.cells [S0 h.next 0 1 1] 120 none false)).get h.next = .cells [U 0] 167 none false := by rw [get_new_lt _ (by omega)]; exact gR
    have hsrc : srcOf (h1.new (.cells [S0 h.next 0 1 1] 120 none false)) 1 (S0 h1.next 0 1 1) = some (1, [S0 h.next 0 1 1]) := by rw [srcOf_row gT (Nat.le_refl 1)]; rfl
    generalize h1.new (.cells [S0 h.next 0 1 1] 120 none false) = h2 at *
    have hmost : (i + 1) * 24 ≤ AHeap.most := by unfold AHeap.most; omega
    have hrep : (List.replicate (i + 1) 0 : List Nat) = List.replicate i 0 ++ [0] := by rw [List.replicate_succ']
    have step : ∃ a c h3 O' Rs', v = .slice a i c ∧ h2.app 120 1 24 ⟨a, i, c⟩ 1 [S0 h.next 0 1 1] = some (⟨some ⟨h2.next, 0, none⟩, i + 1, i + 1⟩, h3) ∧ Exh h0 h3 ∧ MatR h0.next h3 (S0 h2.next 0 (i + 1) (i + 1)) (List.replicate (i + 1) 0) O' Rs' := by
      have En := E.next
      have E02 := E.trans E2
      rcases H with ⟨rfl, rfl⟩ | ⟨O, Rs, hi0, M⟩
      · refine ⟨none, 0, _, h2.next, [h.next], rfl, app_nil (by decide) hmost (by decide) (by decide), E02.trans (Exh.new _ _), ⟨fun x hx => by simp at hx; omega, rfl, ⟨by omega, by simp⟩, get_new_self _ _, rfl, by simp, fun j R x a b => ?_⟩⟩
        cases j with
        | zero => simp at a b; subst a b; exact ⟨by omega, by simp; omega, by omega, by rw [get_new_lt _ (by omega)]; exact gR2⟩
        | succ j => simp at a
      · have M2 := M.ext E2
        have hl := M.len
        simp at hl
        have hv := M.v
        simp only [List.length_replicate] at hv
        have happ := app_grown (h := h2) (e := 120) (sz := 1) (bys := 24) (n := 1) (l := i) (i := O) (vs := [S0 h.next 0 1 1]) (cs := Rs.map fun R => S0 R 0 1 1) M2.g (by simp [hl]) rfl (by decide) hmost (by decide) (by decide)
        have nO : O < h.next := M.o.2
        refine ⟨_, _, _, h2.next, Rs ++ [h.next], hv, happ, ⟨by simp; omega, fun j hj => ?_⟩, ⟨fun x hx => by simp at hx; omega, by simp, ⟨by omega, by simp⟩, ?_, by simp [hl], ?_, fun j R x a b => ?_⟩⟩
        · have := M.o.1
          rw [get_new_lt _ (by simp; omega), AHeap.get_set_ne _ _ (by omega), E02.keep j hj]
        · have : (h2.set O .gone).next = h2.next := rfl
          rw [← this, get_new_self]; simp
        · refine List.nodup_append.2 ⟨M.nd, by simp, fun x hx y hy e => ?_⟩
          simp at hy
          obtain ⟨j, hj⟩ := List.getElem?_of_mem hx
          have hj2 : j < i := by have := (List.getElem?_eq_some_iff.1 hj).1; omega
          have := (M.r j x 0 hj (by simp [hj2])).2.1
          omega
        · have hx0 : x = 0 := by
            have := List.mem_of_getElem? b
            simp at this; exact this
          subst hx0
          by_cases ej : j < i
          · rw [List.getElem?_append_left (by omega)] at a
            obtain ⟨q1, q2, q3, q4⟩ := M.r j R 0 a (by simp [ej])
            refine ⟨q1, by simp; omega, by omega, ?_⟩
            rw [get_new_lt _ (by simp; omega), AHeap.get_set_ne _ _ q3, E2.keep R q2]; exact q4
          · have hjn : j < (Rs ++ [h.next]).length := (List.getElem?_eq_some_iff.1 a).1
            simp at hjn
            have : j = i := by omega
            subst this
            rw [List.getElem?_append_right (by omega)] at a
            simp [hl] at a
            subst a
            refine ⟨by omega, by simp; omega, by omega, ?_⟩
            rw [get_new_lt _ (by simp; omega), AHeap.get_set_ne _ _ (by omega)]; exact gR2
    obtain ⟨a, c, h3, O', Rs', hv, happ, E3, M3⟩ := step
    simp only [hv, cAppend_eq, hsrc, ob_some, happ]
    rw [cBin_add _ _ _ (by omega) (by omega), loopK_normal]
    exact ih (i + 1) n _ h3 _ E3 (.inr ⟨O', Rs', by omega, M3⟩) (by omega) (by omega) (by omega) (by simp [updL_cons, s0]) (by simp [updL_cons]) (by simp [updL_cons])
theorem ev114 (X : Call) (n : Nat) {h : AHeap} {k : Nat} (hk : k ≤ 63) (hk0 : 0 < k) (hn : 100 ≤ n) :
    ∃ h' v, evF EK X (n + 1) 114 [I k] h = some (.ret v h') ∧ Exh h h' ∧ Mat h.next h' v (List.replicate k 0) := by
  rw [evF_B _ _ _ _ _ _ (by kernel_rfl), g114_eq, g114]
  refine ev114_loop (evF EK X n) n (h0 := h) hk hk0 (fun o => ∃ h' v, o = some (.ret v h') ∧ Exh h h' ∧ Mat h.next h' v (List.replicate k 0)) _ (fun σ' h' v E M s3 => ?_) k 0 n _ h nilS (Exh.refl h) (.inl ⟨rfl, rfl⟩) (by omega) (by omega) (by omega) (by simp [updL_cons]) (by simp [updL_cons]) (by simp [updL_cons])
  exact ⟨h', v, by simp [g114_C2, updL_cons, s3], E, M⟩
end Go.Amb
end

section
/- Rows of bits: own, both, behind. -/
set_option linter.unusedVariables false
set_option linter.unusedSimpArgs false
namespace Go.Amb
open Go.Proofs

def gA (A : List Nat) (i : Nat) : Nat := (A[i]?).getD 0
abbrev Rl (A : List Nat) (i t : Nat) : Prop := (gA A i).testBit t = true
theorem gA_at {A : List Nat} {i : Nat} (h : i < A.length) : gA A i = A[i] := by unfold gA; rw [List.getElem?_eq_getElem h]; rfl
theorem gA_set {A : List Nat} {i j w : Nat} (h : i < A.length) : gA (A.set i w) j = if j = i then w else gA A j := by
  unfold gA
  rw [List.getElem?_set]
  by_cases e : j = i
  · subst e; simp [h]
  · rw [if_neg fun q : i = j => e q.symm, if_neg e]
theorem gA_rep (n i : Nat) : gA (List.replicate n 0) i = 0 := by
  unfold gA
  rw [List.getElem?_replicate]
  split <;> rfl
theorem rl_or {a b t : Nat} : (a ||| b).testBit t = true ↔ a.testBit t = true ∨ b.testBit t = true := by rw [Nat.testBit_or]; simp
theorem rl_pow {i t : Nat} : (2 ^ i).testBit t = true ↔ t = i := by
  rw [Nat.testBit_two_pow]; simp; exact ⟨fun h => h.symm, fun h => h.symm⟩
/-- The words at a row. -/
theorem MatR.load {lo : Nat} {h : AHeap} {v : Value} {A : List Nat} {O : Nat} {Rs : List Nat} (M : MatR lo h v A O Rs) {i : Nat} (hi : i < A.length) :
    ∃ R, Rs[i]? = some R ∧ (∀ K : K1, (cIdxS 1 v (I i) K) = K (P0 O i)) ∧ h.cell? O i = some (S0 R 0 1 1) ∧ h.get R = .cells [U (gA A i)] 167 none false ∧ h.cell? R 0 = some (U (gA A i)) ∧ gA A i < 2 ^ 64 := by
  obtain ⟨R, e1, e2, e3, e4⟩ := M.row hi
  refine ⟨R, e1, fun K => ?_, e2, by rw [gA_at hi]; exact e3, by rw [gA_at hi, cell?_of e3]; rfl, by rw [gA_at hi]; exact e4⟩
  rw [M.v]
  simp only [cIdxS_slice, idx?_nat hi, ob_some, Nat.zero_add, Nat.mul_one]
theorem Mat.len0 {lo : Nat} {h : AHeap} {v : Value} {A : List Nat} (M : Mat lo h v A) : 0 < A.length := by
  have := M.ne
  cases A with
  | nil => exact absurd rfl this
  | cons a A => simp

theorem MatR.slc {lo : Nat} {h : AHeap} {v : Value} {A : List Nat} {O : Nat} {Rs : List Nat} (M : MatR lo h v A O Rs) {R : Type} (f : Value → Option R) : asLK .slc v f = f v := by rw [M.v]; rfl
theorem Mat.slc {lo : Nat} {h : AHeap} {v : Value} {A : List Nat} (M : Mat lo h v A) {R : Type} (f : Value → Option R) : asLK .slc v f = f v := by obtain ⟨O, Rs, M⟩ := M.toR; exact M.slc f
theorem ev116_loop (X : Call) (q lf : Nat) {h0 : AHeap} {k : Nat} (hk : k ≤ 63) {v : Value} {O : Nat} {Rs : List Nat} (P : Option Ans → Prop) (K : KS)
    (k1 : ∀ σ' h' A, Exh h0 h' → MatR h0.next h' v A O Rs → A.length = k → (∀ j t, j < k → (Rl A j t ↔ t = j)) → σ' 3 = v → P (K (.exit 0) σ' h')) :
    ∀ (m i n : Nat) (σ : St) (h : AHeap) (A : List Nat), Exh h0 h → MatR h0.next h v A O Rs → A.length = k → (∀ j t, j < k → (Rl A j t ↔ j < i ∧ t = j)) → k - i = m → i ≤ k → m < n → σ 0 = I k → σ 3 = v → σ 4 = I i →
    P (loopS (g116_L1 (evF EK X (q + 1)) lf) n σ h K) := by
  intro m
  induction m with
  | zero =>
    intro i n σ h A E M hA hr hm hi hn s0 s3 s4
    obtain ⟨n, rfl⟩ : ∃ q, n = q + 1 := ⟨n - 1, by omega⟩
    have : i = k := by omega
    subst this
    rw [loopS_succ, g116_L1]
    simp only [s0, s4, cBin_lss, Int.lt_irrefl, decide_false, cIf_eq, Bool.false_eq_true, if_false, loopK_exit]
    exact k1 _ h A E M hA (fun j t hj => by rw [hr j t hj]; simp [hj]) (by simp [updL_cons, s3])
  | succ m ih =>
    intro i n σ h A E M hA hr hm hi hn s0 s3 s4
    obtain ⟨n, rfl⟩ : ∃ q, n = q + 1 := ⟨n - 1, by omega⟩
    have h1' : ((i : Int) < (k : Int)) := by omega
    have hiA : i < A.length := by omega
    obtain ⟨R, e1, ei, ec, eg, _, ew⟩ := M.load hiA
    have hp : 2 ^ i < 2 ^ 64 := Nat.pow_lt_pow_right (by decide) (by omega)
    rw [loopS_succ, g116_L1]
    simp only [s0, s3, s4, cBin_lss, h1', decide_true, cIf_eq, if_true]
    rw [ei]
    simp only [cLoad1_ptr, ld1_eq, ec, ob_some, asLK_slc]
    rw [cCall_ret (ev115 X q eg ew (by omega))]
    simp only [asRetL_unit]
    rw [cBin_add _ _ _ (by omega) (by omega), loopK_normal]
    refine ih (i + 1) n _ _ _ (M.extSet E e1 _) (M.upd e1 (Nat.or_lt_two_pow ew hp)) (by simp [hA]) (fun j t hj => ?_) (by omega) (by omega) (by omega) (by simp [updL_cons, s0]) (by simp [updL_cons, s3]) (by simp [updL_cons])
    unfold Rl
    rw [gA_set hiA]
    by_cases ej : j = i
    · subst ej
      rw [if_pos rfl, rl_or, rl_pow]
      have := hr j t hj
      unfold Rl at this
      rw [this]
      constructor
      · rintro (⟨q, _⟩ | q)
        · omega
        · exact ⟨by omega, q⟩
      · rintro ⟨_, q⟩; exact .inr q
    · rw [if_neg ej]
      have := hr j t hj
      unfold Rl at this
      rw [this]
      constructor
      · rintro ⟨q1, q2⟩; exact ⟨by omega, q2⟩
      · rintro ⟨q1, q2⟩; exact ⟨by omega, q2⟩
theorem ev116 (X : Call) (n : Nat) {h : AHeap} {k : Nat} (hk : k ≤ 63) (hk0 : 0 < k) (hn : 100 ≤ n) :
    ∃ h' v A, evF EK X (n + 2) 116 [I k] h = some (.ret v h') ∧ Exh h h' ∧ Mat h.next h' v A ∧ A.length = k ∧ ∀ j t, j < k → (Rl A j t ↔ t = j) := by
  rw [evF_B _ _ _ _ _ _ (by kernel_rfl), g116_eq, g116]
  obtain ⟨h1, v, e1, E1, M1⟩ := ev114 X n (h := h) hk hk0 hn
  obtain ⟨O, Rs, M⟩ := M1.toR
  simp only [st0_zero]
  rw [cCall_ret e1]
  simp only [asRetL_one, asTIL_one]
  rw [M.slc]
  refine ev116_loop X n (n + 1) (h0 := h) (v := v) hk (fun o => ∃ h' v A, o = some (.ret v h') ∧ Exh h h' ∧ Mat h.next h' v A ∧ A.length = k ∧ ∀ j t, j < k → (Rl A j t ↔ t = j)) _ (fun σ' h' A E' M' hA hr s3 => ?_) k 0 (n + 1) _ h1 (List.replicate k 0) E1 M (by simp) (fun j t _ => by unfold Rl; rw [gA_rep]; simp) (by omega) (by omega) (by omega) (by simp [updL_cons]) (by simp [updL_cons]) (by simp [updL_cons])
  exact ⟨h', v, A, by simp [g116_C2, updL_cons, s3], E', M'.toM (by intro e; rw [e] at hA; simp at hA; omega), hA, hr⟩

theorem ev118_loop (X : Call) (q lf : Nat) {h0 : AHeap} {k : Nat} (hk : k ≤ 63) {a b v : Value} {lo : Nat} {A B : List Nat} (MA : Mat lo h0 a A) (MB : Mat lo h0 b B) (hA : A.length = k) (hB : B.length = k) {O : Nat} {Rs : List Nat} (P : Option Ans → Prop) (K : KS)
    (k1 : ∀ σ' h' C, Exh h0 h' → MatR h0.next h' v C O Rs → C.length = k → (∀ j t, j < k → (Rl C j t ↔ Rl A j t ∨ Rl B j t)) → σ' 5 = v → P (K (.exit 0) σ' h')) :
    ∀ (m i n : Nat) (σ : St) (h : AHeap) (C : List Nat), Exh h0 h → MatR h0.next h v C O Rs → C.length = k → (∀ j t, j < k → (Rl C j t ↔ j < i ∧ (Rl A j t ∨ Rl B j t))) → k - i = m → i ≤ k → m < n → σ 0 = a → σ 1 = b → σ 5 = v → σ 6 = I i →
    P (loopS (g118_L1 (evF EK X (q + 3)) lf) n σ h K) := by
  obtain ⟨OA, RA, MA⟩ := MA.toR
  obtain ⟨OB, RB, MB⟩ := MB.toR
  have va := MA.v
  intro m
  induction m with
  | zero =>
    intro i n σ h C E M hC hr hm hi hn s0 s1 s5 s6
    obtain ⟨n, rfl⟩ : ∃ q, n = q + 1 := ⟨n - 1, by omega⟩
    have : i = k := by omega
    subst this
    rw [loopS_succ, g118_L1]
    simp only [s0, va, s6, cLenS_eq, hA, cBin_lss, Int.lt_irrefl, decide_false, cIf_eq, Bool.false_eq_true, if_false, loopK_exit]
    exact k1 _ h C E M hC (fun j t hj => by rw [hr j t hj]; simp [hj]) (by simp [updL_cons, s5])
  | succ m ih =>
    intro i n σ h C E M hC hr hm hi hn s0 s1 s5 s6
    obtain ⟨n, rfl⟩ : ∃ q, n = q + 1 := ⟨n - 1, by omega⟩
    have h1' : ((i : Int) < (k : Int)) := by omega
    have hiC : i < C.length := by omega
    obtain ⟨R, e1, ei, ec, eg, _, ew⟩ := M.load hiC
    obtain ⟨Ra, f1, fi, fc, fg, _, fw⟩ := (MA.ext E).load (i := i) (by omega)
    have M1 := M.upd e1 (Nat.or_lt_two_pow ew fw)
    have E1 := M.extSet E e1 (.cells [U (gA C i ||| gA A i)] 167 none false)
    have ev1 := ev139 X q eg fg ew fw
    generalize h.set R (.cells [U (gA C i ||| gA A i)] 167 none false) = h1 at *
    have hiC1 : i < (C.set i (gA C i ||| gA A i)).length := by simp; omega
    obtain ⟨R', e1', ei', ec', eg', _, ew'⟩ := M1.load hiC1
    obtain ⟨Rb, g1, gi, gc, gg, _, gw⟩ := (MB.ext E1).load (i := i) (by omega)
    have M2 := M1.upd e1' (Nat.or_lt_two_pow ew' gw)
    have E2 := M1.extSet E1 e1' (.cells [U (gA (C.set i (gA C i ||| gA A i)) i ||| gA B i)] 167 none false)
    have ev2 := ev139 X q eg' gg ew' gw
    rw [loopS_succ, g118_L1]
    have hlen : ∀ K1 : K1, cLenS a K1 = K1 (I A.length) := fun K1 => by rw [va]; rfl
    simp only [s0, s1, s5, s6]
    rw [hlen]
    simp only [hA, cBin_lss, h1', decide_true, cIf_eq, if_true]
    rw [ei]
    simp only [rety_eq, dr_ret, cLoad1_ptr, ld1_eq, ec, ob_some, asLK_slc]
    rw [fi]
    simp only [rety_eq, dr_ret, cLoad1_ptr, ld1_eq, fc, ob_some, asLK_slc]
    rw [cCall_ret ev1]
    simp only [asRetL_unit, rety_eq, dr_ret]
    rw [ei']
    simp only [rety_eq, dr_ret, cLoad1_ptr, ld1_eq, ec', ob_some, asLK_slc]
    rw [gi]
    simp only [rety_eq, dr_ret, cLoad1_ptr, ld1_eq, gc, ob_some, asLK_slc]
    rw [cCall_ret ev2]
    simp only [asRetL_unit, rety_eq, dr_ret]
    rw [cBin_add _ _ _ (by omega) (by omega), loopK_normal]
    refine ih (i + 1) n _ _ _ E2 M2 (by simp [hC]) (fun j t hj => ?_) (by omega) (by omega) (by omega) (by simp [updL_cons, s0]) (by simp [updL_cons, s1]) (by simp [updL_cons, s5]) (by simp [updL_cons])
    unfold Rl
    rw [gA_set hiC1, gA_set hiC, gA_set hiC, if_pos rfl]
    by_cases ej : j = i
    · subst ej
      rw [if_pos rfl, rl_or, rl_or]
      have := hr j t hj
      unfold Rl at this
      rw [this]
      constructor
      · rintro ((⟨q, _⟩ | q) | q)
        · omega
        · exact ⟨by omega, .inl q⟩
        · exact ⟨by omega, .inr q⟩
      · rintro ⟨_, q | q⟩
        · exact .inl (.inr q)
        · exact .inr q
    · rw [if_neg ej, if_neg ej]
      have := hr j t hj
      unfold Rl at this
      rw [this]
      constructor
      · rintro ⟨q1, q2⟩; exact ⟨by omega, q2⟩
      · rintro ⟨q1, q2⟩; exact ⟨by omega, q2⟩
theorem ev118 (X : Call) (n : Nat) {h : AHeap} {k : Nat} (hk : k ≤ 63) {a b : Value} {lo : Nat} {A B : List Nat} (MA : Mat lo h a A) (MB : Mat lo h b B) (hA : A.length = k) (hB : B.length = k) (hn : 100 ≤ n) :
    ∃ h' v C, evF EK X (n + 4) 118 [a, b] h = some (.ret v h') ∧ Exh h h' ∧ Mat h.next h' v C ∧ C.length = k ∧ ∀ j t, j < k → (Rl C j t ↔ Rl A j t ∨ Rl B j t) := by
  rw [evF_B _ _ _ _ _ _ (by kernel_rfl), g118_eq, g118]
  have hk0 : 0 < k := by rw [← hA]; exact MA.len0
  obtain ⟨OA, RA, MA'⟩ := MA.toR
  have va := MA'.v
  obtain ⟨h1, v, e1, E1, M1⟩ := ev114 X (n + 2) (h := h) hk hk0 (by omega)
  obtain ⟨O, Rs, M⟩ := M1.toR
  have hlen : ∀ K1 : K1, cLenS a K1 = K1 (I A.length) := fun K1 => by rw [va]; rfl
  simp only [st0_zero, st0_succ]
  rw [hlen, hA, cCall_ret e1]
  simp only [asRetL_one, asTIL_one]
  rw [M.slc]
  refine ev118_loop X n (n + 3) (h0 := h) (v := v) hk MA MB hA hB (fun o => ∃ h' v C, o = some (.ret v h') ∧ Exh h h' ∧ Mat h.next h' v C ∧ C.length = k ∧ ∀ j t, j < k → (Rl C j t ↔ Rl A j t ∨ Rl B j t)) _ (fun σ' h' C E' M' hC hr s5 => ?_) k 0 (n + 3) _ h1 (List.replicate k 0) E1 M (by simp) (fun j t _ => by unfold Rl; rw [gA_rep]; simp) (by omega) (by omega) (by omega) (by simp [updL_cons]) (by simp [updL_cons]) (by simp [updL_cons]) (by simp [updL_cons])
  exact ⟨h', v, C, by simp [g118_C2, updL_cons, s5], E', M'.toM (by intro e; rw [e] at hC; simp at hC; omega), hC, hr⟩

theorem ev117_L2 (X : Call) (q lf : Nat) {h0 : AHeap} {k i : Nat} (hk : k ≤ 63) (hik : i < k) {a b v : Value} {lo : Nat} {A B : List Nat} (MA : Mat lo h0 a A) (MB : Mat lo h0 b B) (hA : A.length = k) (hB : B.length = k) {O : Nat} {Rs : List Nat} (P : Option Ans → Prop) (K : KS) {C0 : List Nat}
    (k1 : ∀ σ' h' C, Exh h0 h' → MatR h0.next h' v C O Rs → C.length = k → (∀ j, j ≠ i → gA C j = gA C0 j) → (∀ t, Rl C i t ↔ Rl C0 i t ∨ ∃ u, u < k ∧ Rl A i u ∧ Rl B u t) → σ' 0 = a → σ' 1 = b → σ' 5 = I k → σ' 6 = v → σ' 7 = I i → P (K (.exit 2) σ' h')) :
    ∀ (m j n : Nat) (σ : St) (h : AHeap) (C : List Nat), Exh h0 h → MatR h0.next h v C O Rs → C.length = k → (∀ j, j ≠ i → gA C j = gA C0 j) → (∀ t, Rl C i t ↔ Rl C0 i t ∨ ∃ u, u < j ∧ Rl A i u ∧ Rl B u t) → k - j = m → j ≤ k → m < n → σ 0 = a → σ 1 = b → σ 5 = I k → σ 6 = v → σ 7 = I i → σ 8 = I j →
    P (loopS (g117_L2 (evF EK X (q + 3)) lf) n σ h K) := by
  obtain ⟨OA, RA, MA⟩ := MA.toR
  obtain ⟨OB, RB, MB⟩ := MB.toR
  intro m
  induction m with
  | zero =>
    intro j n σ h C E M hC hr0 hr hm hi hn s0 s1 s5 s6 s7 s8
    obtain ⟨n, rfl⟩ : ∃ q, n = q + 1 := ⟨n - 1, by omega⟩
    have : j = k := by omega
    subst this
    rw [loopS_succ, g117_L2]
    simp only [s5, s8, cBin_lss, Int.lt_irrefl, decide_false, cIf_eq, Bool.false_eq_true, if_false, loopK_exit]
    exact k1 _ h C E M hC hr0 hr (by simp [updL_cons, s0]) (by simp [updL_cons, s1]) (by simp [updL_cons, s5]) (by simp [updL_cons, s6]) (by simp [updL_cons, s7])
  | succ m ih =>
    intro j n σ h C E M hC hr0 hr hm hi hn s0 s1 s5 s6 s7 s8
    obtain ⟨n, rfl⟩ : ∃ q, n = q + 1 := ⟨n - 1, by omega⟩
    have h1' : ((j : Int) < (k : Int)) := by omega
    have hiC : i < C.length := by omega
    obtain ⟨Ra, f1, fi, fc, fg, fcc, fw⟩ := (MA.ext E).load (i := i) (by omega)
    have ev1 := ev77 X (q + 2) (i := j) fcc fw (by omega)
    rw [loopS_succ, g117_L2]
    simp only [s0, s1, s5, s6, s7, s8, cBin_lss, h1', decide_true, cIf_eq, if_true]
    rw [fi]
    simp only [cLoad1_ptr, ld1_eq, fc, ob_some, asLK_slc]
    rw [cCall_ret ev1]
    simp only [asRetL_one, asTIL_one, asLK_bool, cIf_eq]
    have fin : ∀ (σ' : St) (h' : AHeap) (C' : List Nat), Exh h0 h' → MatR h0.next h' v C' O Rs → C'.length = k → (∀ j, j ≠ i → gA C' j = gA C0 j) → (∀ t, Rl C' i t ↔ Rl C0 i t ∨ ∃ u, u < j + 1 ∧ Rl A i u ∧ Rl B u t) → σ' 0 = a → σ' 1 = b → σ' 5 = I k → σ' 6 = v → σ' 7 = I i → σ' 8 = I j → P (g117_C3 (evF EK X (q + 3)) lf σ' h' (loopK (g117_L2 (evF EK X (q + 3)) lf) n K)) := by
      intro σ' h' C' E' M' hC' hr0' hr' p0 p1 p5 p6 p7 p8
      rw [g117_C3]
      simp only [p8]
      rw [cBin_add _ _ _ (by omega) (by omega), loopK_normal]
      exact ih (j + 1) n _ h' C' E' M' hC' hr0' hr' (by omega) (by omega) (by omega) (by simp [updL_cons, p0]) (by simp [updL_cons, p1]) (by simp [updL_cons, p5]) (by simp [updL_cons, p6]) (by simp [updL_cons, p7]) (by simp [updL_cons])
    by_cases hb : (gA A i).testBit j = true
    · rw [if_pos hb]
      obtain ⟨R, e1, ei, ec, eg, _, ew⟩ := M.load hiC
      obtain ⟨Rb, g1, gi, gc, gg, _, gw⟩ := (MB.ext E).load (i := j) (by omega)
      have ev2 := ev139 X q eg gg ew gw
      rw [ei]
      simp only [rety_eq, dr_ret, cLoad1_ptr, ld1_eq, ec, ob_some, asLK_slc]
      rw [gi]
      simp only [rety_eq, dr_ret, cLoad1_ptr, ld1_eq, gc, ob_some, asLK_slc]
      rw [cCall_ret ev2]
      simp only [asRetL_unit, rety_eq, dr_ret]
      refine fin _ _ _ (M.extSet E e1 _) (M.upd e1 (Nat.or_lt_two_pow ew gw)) (by simp [hC]) (fun j' hj' => by rw [gA_set hiC, if_neg hj']; exact hr0 j' hj') (fun t => ?_) (by simp [updL_cons, s0]) (by simp [updL_cons, s1]) (by simp [updL_cons, s5]) (by simp [updL_cons, s6]) (by simp [updL_cons, s7]) (by simp [updL_cons, s8])
      unfold Rl
      rw [gA_set hiC, if_pos rfl, rl_or]
      have := hr t
      unfold Rl at this
      rw [this]
      constructor
      · rintro ((q | ⟨u, q1, q2, q3⟩) | q)
        · exact .inl q
        · exact .inr ⟨u, by omega, q2, q3⟩
        · exact .inr ⟨j, by omega, hb, q⟩
      · rintro (q | ⟨u, q1, q2, q3⟩)
        · exact .inl (.inl q)
        · by_cases e : u = j
          · subst e; exact .inr q3
          · exact .inl (.inr ⟨u, by omega, q2, q3⟩)
    · rw [if_neg hb]
      refine fin _ _ C E M hC hr0 (fun t => ?_) (by simp [updL_cons, s0]) (by simp [updL_cons, s1]) (by simp [updL_cons, s5]) (by simp [updL_cons, s6]) (by simp [updL_cons, s7]) (by simp [updL_cons, s8])
      rw [hr t]
      constructor
      · rintro (q | ⟨u, q1, q2, q3⟩)
        · exact .inl q
        · exact .inr ⟨u, by omega, q2, q3⟩
      · rintro (q | ⟨u, q1, q2, q3⟩)
        · exact .inl q
        · by_cases e : u = j
          · subst e; exact absurd q2 hb
          · exact .inr ⟨u, by omega, q2, q3⟩
theorem ev117_L1 (X : Call) (q lf : Nat) (hlf : 100 ≤ lf) {h0 : AHeap} {k : Nat} (hk : k ≤ 63) {a b v : Value} {lo : Nat} {A B : List Nat} (MA : Mat lo h0 a A) (MB : Mat lo h0 b B) (hA : A.length = k) (hB : B.length = k) {O : Nat} {Rs : List Nat} (P : Option Ans → Prop) (K : KS)
    (k1 : ∀ σ' h' C, Exh h0 h' → MatR h0.next h' v C O Rs → C.length = k → (∀ j t, j < k → (Rl C j t ↔ ∃ u, u < k ∧ Rl A j u ∧ Rl B u t)) → σ' 6 = v → P (K (.exit 0) σ' h')) :
    ∀ (m i n : Nat) (σ : St) (h : AHeap) (C : List Nat), Exh h0 h → MatR h0.next h v C O Rs → C.length = k → (∀ j t, j < k → (Rl C j t ↔ j < i ∧ ∃ u, u < k ∧ Rl A j u ∧ Rl B u t)) → k - i = m → i ≤ k → m < n → σ 0 = a → σ 1 = b → σ 5 = I k → σ 6 = v → σ 7 = I i →
    P (loopS (g117_L1 (evF EK X (q + 3)) lf) n σ h K) := by
  intro m
  induction m with
  | zero =>
    intro i n σ h C E M hC hr hm hi hn s0 s1 s5 s6 s7
    obtain ⟨n, rfl⟩ : ∃ q, n = q + 1 := ⟨n - 1, by omega⟩
    have : i = k := by omega
    subst this
    rw [loopS_succ, g117_L1]
    simp only [s5, s7, cBin_lss, Int.lt_irrefl, decide_false, cIf_eq, Bool.false_eq_true, if_false, loopK_exit]
    exact k1 _ h C E M hC (fun j t hj => by rw [hr j t hj]; simp [hj]) (by simp [updL_cons, s6])
  | succ m ih =>
    intro i n σ h C E M hC hr hm hi hn s0 s1 s5 s6 s7
    obtain ⟨n, rfl⟩ : ∃ q, n = q + 1 := ⟨n - 1, by omega⟩
    have h1' : ((i : Int) < (k : Int)) := by omega
    rw [loopS_succ, g117_L1]
    simp only [s5, s7, cBin_lss, h1', decide_true, cIf_eq, if_true]
    refine ev117_L2 X q lf (h0 := h0) (v := v) hk (show i < k by omega) MA MB hA hB P _ (C0 := C) (fun σ' h' C' E' M' hC' hr0' hr' p0 p1 p5 p6 p7 => ?_) k 0 lf _ h C E M hC (fun _ _ => rfl) (fun t => by simp) (by omega) (by omega) (by omega) (by simp [updL_cons, s0]) (by simp [updL_cons, s1]) (by simp [updL_cons, s5]) (by simp [updL_cons, s6]) (by simp [updL_cons, s7]) (by simp [updL_cons])
    simp only [hBlk_same, hBlk_normal, hSeq_normal, g117_C4, p7]
    rw [cBin_add _ _ _ (by omega) (by omega), loopK_normal]
    refine ih (i + 1) n _ h' C' E' M' hC' (fun j t hj => ?_) (by omega) (by omega) (by omega) (by simp [updL_cons, p0]) (by simp [updL_cons, p1]) (by simp [updL_cons, p5]) (by simp [updL_cons, p6]) (by simp [updL_cons])
    by_cases ej : j = i
    · subst ej
      rw [hr' t, hr j t hj]
      constructor
      · rintro (⟨q, _⟩ | q)
        · omega
        · exact ⟨by omega, q⟩
      · rintro ⟨_, q⟩; exact .inr q
    · unfold Rl
      rw [hr0' j ej]
      have := hr j t hj
      unfold Rl at this
      rw [this]
      constructor
      · rintro ⟨q1, q2⟩; exact ⟨by omega, q2⟩
      · rintro ⟨q1, q2⟩; exact ⟨by omega, q2⟩
theorem ev117 (X : Call) (n : Nat) {h : AHeap} {k : Nat} (hk : k ≤ 63) {a b : Value} {lo : Nat} {A B : List Nat} (MA : Mat lo h a A) (MB : Mat lo h b B) (hA : A.length = k) (hB : B.length = k) (hn : 100 ≤ n) :
    ∃ h' v C, evF EK X (n + 4) 117 [a, b] h = some (.ret v h') ∧ Exh h h' ∧ Mat h.next h' v C ∧ C.length = k ∧ ∀ j t, j < k → (Rl C j t ↔ ∃ u, u < k ∧ Rl A j u ∧ Rl B u t) := by
  rw [evF_B _ _ _ _ _ _ (by kernel_rfl), g117_eq, g117]
  have hk0 : 0 < k := by rw [← hA]; exact MA.len0
  obtain ⟨OA, RA, MA'⟩ := MA.toR
  have va := MA'.v
  obtain ⟨h1, v, e1, E1, M1⟩ := ev114 X (n + 2) (h := h) hk hk0 (by omega)
  obtain ⟨O, Rs, M⟩ := M1.toR
  have hlen : ∀ K1 : K1, cLenS a K1 = K1 (I A.length) := fun K1 => by rw [va]; rfl
  simp only [st0_zero, st0_succ]
  rw [hlen, hA, cCall_ret e1]
  simp only [asRetL_one, asTIL_one]
  rw [M.slc]
  refine ev117_L1 X n (n + 3) (by omega) (h0 := h) (v := v) hk MA MB hA hB (fun o => ∃ h' v C, o = some (.ret v h') ∧ Exh h h' ∧ Mat h.next h' v C ∧ C.length = k ∧ ∀ j t, j < k → (Rl C j t ↔ ∃ u, u < k ∧ Rl A j u ∧ Rl B u t)) _ (fun σ' h' C E' M' hC hr s6 => ?_) k 0 (n + 3) _ h1 (List.replicate k 0) E1 M (by simp) (fun j t _ => by unfold Rl; rw [gA_rep]; simp) (by omega) (by omega) (by omega) (by simp [updL_cons]) (by simp [updL_cons]) (by simp [updL_cons]) (by simp [updL_cons]) (by simp [updL_cons])
  exact ⟨h', v, C, by simp [g117_C5, updL_cons, s6], E', M'.toM (by intro e; rw [e] at hC; simp at hC; omega), hC, hr⟩
end Go.Amb
end

section
/- Rows of bits: where any number of steps lead. -/
set_option linter.unusedVariables false
set_option linter.unusedSimpArgs false
namespace Go.Amb
open Go.Proofs

def Wr (R : Nat → Nat → Prop) : Nat → Nat → Nat → Prop
  | 0, i, t => R i t
  | k + 1, i, t => Wr R k i t ∨ (Wr R k i k ∧ Wr R k k t)
theorem Wr.self (R : Nat → Nat → Prop) (k t : Nat) : Wr R (k + 1) k t ↔ Wr R k k t := by
  simp only [Wr]
  exact ⟨fun h => h.elim id fun h => h.2, .inl⟩
theorem Wr.trans {R : Nat → Nat → Prop} : ∀ (k m i j : Nat), m < k → Wr R k i m → Wr R k m j → Wr R k i j := by
  intro k
  induction k with
  | zero => intro m i j h; omega
  | succ k ih =>
    intro m i j hm h1 h2
    simp only [Wr] at h1 h2 ⊢
    by_cases e : m = k
    · subst e
      have a : Wr R m i m := h1.elim id fun h => h.1
      have b : Wr R m m j := h2.elim id fun h => h.2
      exact .inr ⟨a, b⟩
    · have hk : m < k := by omega
      rcases h1 with h1 | ⟨h1, h1'⟩
      · rcases h2 with h2 | ⟨h2, h2'⟩
        · exact .inl (ih m i j hk h1 h2)
        · exact .inr ⟨ih m i k hk h1 h2, h2'⟩
      · rcases h2 with h2 | ⟨h2, h2'⟩
        · exact .inr ⟨h1, ih m k j hk h1' h2⟩
        · exact .inr ⟨h1, h2'⟩
theorem Wr.mono {R : Nat → Nat → Prop} {i t : Nat} (h : R i t) : ∀ k, Wr R k i t
  | 0 => h
  | k + 1 => .inl (Wr.mono h k)
theorem Wr.sound {R : Nat → Nat → Prop} : ∀ (k i t : Nat), Wr R k i t → Star R i t := by
  intro k
  induction k with
  | zero => intro i t h; exact .one h
  | succ k ih =>
    intro i t h
    rcases h with h | ⟨h, h'⟩
    · exact ih i t h
    · exact (ih _ _ h).trans (ih _ _ h')
/-- Of a relation that leads nowhere else. -/
theorem Wr.star {A : Nat → Nat → Prop} {n : Nat} (hA : ∀ i t, i < n → A i t → t < n) {i t : Nat} (hi : i < n) : Wr (fun i t => A i t ∨ t = i) n i t ↔ Star A i t := by
  constructor
  · intro h
    have : ∀ x y, Star (fun i t => A i t ∨ t = i) x y → Star A x y := by
      intro x y h
      induction h with
      | refl x => exact .refl _
      | step r t ih =>
        rcases r with r | rfl
        · exact .step r ih
        · exact ih
    exact this _ _ (Wr.sound _ _ _ h)
  · intro h
    induction h with
    | refl x => exact Wr.mono (.inr rfl) n
    | @step x y z r t ih =>
      have hy := hA x y hi r
      exact Wr.trans n y x z hy (Wr.mono (.inl r) n) (ih hy)

theorem ev119_L2 (X : Call) (q lf : Nat) {h0 : AHeap} {k c : Nat} (hk : k ≤ 63) (hc : c < k) {v : Value} {O : Nat} {Rs : List Nat} (R : Nat → Nat → Prop) (P : Option Ans → Prop) (K : KS)
    (k1 : ∀ σ' h' C, Exh h0 h' → MatR h0.next h' v C O Rs → C.length = k → (∀ j t, j < k → (Rl C j t ↔ Wr R (c + 1) j t)) → σ' 3 = I k → σ' 4 = v → σ' 5 = I c → P (K (.exit 2) σ' h')) :
    ∀ (m i n : Nat) (σ : St) (h : AHeap) (C : List Nat), Exh h0 h → MatR h0.next h v C O Rs → C.length = k → (∀ j t, j < k → (Rl C j t ↔ if j < i then Wr R (c + 1) j t else Wr R c j t)) → k - i = m → i ≤ k → m < n → σ 3 = I k → σ 4 = v → σ 5 = I c → σ 6 = I i →
    P (loopS (g119_L2 (evF EK X (q + 3)) lf) n σ h K) := by
  intro m
  induction m with
  | zero =>
    intro i n σ h C E M hC hr hm hi hn s3 s4 s5 s6
    obtain ⟨n, rfl⟩ : ∃ q, n = q + 1 := ⟨n - 1, by omega⟩
    have : i = k := by omega
    subst this
    rw [loopS_succ, g119_L2]
    simp only [s3, s6, cBin_lss, Int.lt_irrefl, decide_false, cIf_eq, Bool.false_eq_true, if_false, loopK_exit]
    exact k1 _ h C E M hC (fun j t hj => by rw [hr j t hj, if_pos hj]) (by simp [updL_cons, s3]) (by simp [updL_cons, s4]) (by simp [updL_cons, s5])
  | succ m ih =>
    intro i n σ h C E M hC hr hm hi hn s3 s4 s5 s6
    obtain ⟨n, rfl⟩ : ∃ q, n = q + 1 := ⟨n - 1, by omega⟩
    have h1' : ((i : Int) < (k : Int)) := by omega
    have hik : i < k := by omega
    have hiC : i < C.length := by omega
    obtain ⟨Ri, e1, ei, ec, eg, ecc, ew⟩ := M.load hiC
    obtain ⟨Rc, g1, gi, gc, gg, _, gw⟩ := M.load (i := c) (by omega)
    have ev1 := ev77 X (q + 2) (i := c) ecc ew (by omega)
    have hri : ∀ t, Rl C i t ↔ Wr R c i t := fun t => by rw [hr i t hik, if_neg (by omega)]
    have hrc : ∀ t, Rl C c t ↔ Wr R c c t := fun t => by
      rw [hr c t hc]
      split
      · exact Wr.self R c t
      · exact Iff.rfl
    rw [loopS_succ, g119_L2]
    simp only [s3, s4, s5, s6, cBin_lss, h1', decide_true, cIf_eq, if_true]
    rw [ei]
    simp only [cLoad1_ptr, ld1_eq, ec, ob_some, asLK_slc]
    rw [cCall_ret ev1]
    simp only [asRetL_one, asTIL_one, asLK_bool, cIf_eq]
    have fin : ∀ (σ' : St) (h' : AHeap) (C' : List Nat), Exh h0 h' → MatR h0.next h' v C' O Rs → C'.length = k → (∀ j t, j < k → (Rl C' j t ↔ if j < i + 1 then Wr R (c + 1) j t else Wr R c j t)) → σ' 3 = I k → σ' 4 = v → σ' 5 = I c → σ' 6 = I i → P (g119_C3 (evF EK X (q + 3)) lf σ' h' (loopK (g119_L2 (evF EK X (q + 3)) lf) n K)) := by
      intro σ' h' C' E' M' hC' hr' p3 p4 p5 p6
      rw [g119_C3]
      simp only [p6]
      rw [cBin_add _ _ _ (by omega) (by omega), loopK_normal]
      exact ih (i + 1) n _ h' C' E' M' hC' hr' (by omega) (by omega) (by omega) (by simp [updL_cons, p3]) (by simp [updL_cons, p4]) (by simp [updL_cons, p5]) (by simp [updL_cons])
    by_cases hb : (gA C i).testBit c = true
    · rw [if_pos hb]
      have ev2 := ev139 X q eg gg ew gw
      rw [ei]
      simp only [rety_eq, dr_ret, cLoad1_ptr, ld1_eq, ec, ob_some, asLK_slc]
      rw [gi]
      simp only [rety_eq, dr_ret, cLoad1_ptr, ld1_eq, gc, ob_some, asLK_slc]
      rw [cCall_ret ev2]
      simp only [asRetL_unit, rety_eq, dr_ret]
      refine fin _ _ _ (M.extSet E e1 _) (M.upd e1 (Nat.or_lt_two_pow ew gw)) (by simp [hC]) (fun j t hj => ?_) (by simp [updL_cons, s3]) (by simp [updL_cons, s4]) (by simp [updL_cons, s5]) (by simp [updL_cons, s6])
      unfold Rl
      rw [gA_set hiC]
      by_cases ej : j = i
      · subst ej
        rw [if_pos rfl, if_pos (by omega), rl_or]
        have a := hri t
        have b := hrc t
        have d := (hri c).1 hb
        unfold Rl at a b
        rw [a, b]
        simp only [Wr]
        constructor
        · rintro (q | q)
          · exact .inl q
          · exact .inr ⟨d, q⟩
        · rintro (q | ⟨_, q⟩)
          · exact .inl q
          · exact .inr q
      · rw [if_neg ej]
        have a := hr j t hj
        unfold Rl at a
        rw [a]
        by_cases q : j < i
        · rw [if_pos q, if_pos (by omega)]
        · rw [if_neg q, if_neg (by omega)]
    · rw [if_neg hb]
      refine fin _ _ C E M hC (fun j t hj => ?_) (by simp [updL_cons, s3]) (by simp [updL_cons, s4]) (by simp [updL_cons, s5]) (by simp [updL_cons, s6])
      by_cases ej : j = i
      · subst ej
        rw [if_pos (by omega), hri t]
        simp only [Wr]
        exact ⟨.inl, fun h => h.elim id fun ⟨q, _⟩ => absurd ((hri c).2 q) hb⟩
      · rw [hr j t hj]
        by_cases q : j < i
        · rw [if_pos q, if_pos (by omega)]
        · rw [if_neg q, if_neg (by omega)]
theorem ev119_L1 (X : Call) (q lf : Nat) (hlf : 100 ≤ lf) {h0 : AHeap} {k : Nat} (hk : k ≤ 63) {v : Value} {O : Nat} {Rs : List Nat} (R : Nat → Nat → Prop) (P : Option Ans → Prop) (K : KS)
    (k1 : ∀ σ' h' C, Exh h0 h' → MatR h0.next h' v C O Rs → C.length = k → (∀ j t, j < k → (Rl C j t ↔ Wr R k j t)) → σ' 4 = v → P (K (.exit 0) σ' h')) :
    ∀ (m c n : Nat) (σ : St) (h : AHeap) (C : List Nat), Exh h0 h → MatR h0.next h v C O Rs → C.length = k → (∀ j t, j < k → (Rl C j t ↔ Wr R c j t)) → k - c = m → c ≤ k → m < n → σ 3 = I k → σ 4 = v → σ 5 = I c →
    P (loopS (g119_L1 (evF EK X (q + 3)) lf) n σ h K) := by
  intro m
  induction m with
  | zero =>
    intro c n σ h C E M hC hr hm hi hn s3 s4 s5
    obtain ⟨n, rfl⟩ : ∃ q, n = q + 1 := ⟨n - 1, by omega⟩
    have : c = k := by omega
    subst this
    rw [loopS_succ, g119_L1]
    simp only [s3, s5, cBin_lss, Int.lt_irrefl, decide_false, cIf_eq, Bool.false_eq_true, if_false, loopK_exit]
    exact k1 _ h C E M hC hr (by simp [updL_cons, s4])
  | succ m ih =>
    intro c n σ h C E M hC hr hm hi hn s3 s4 s5
    obtain ⟨n, rfl⟩ : ∃ q, n = q + 1 := ⟨n - 1, by omega⟩
    have h1' : ((c : Int) < (k : Int)) := by omega
    rw [loopS_succ, g119_L1]
    simp only [s3, s5, cBin_lss, h1', decide_true, cIf_eq, if_true]
    refine ev119_L2 X q lf (h0 := h0) (v := v) hk (show c < k by omega) R P _ (fun σ' h' C' E' M' hC' hr' p3 p4 p5 => ?_) k 0 lf _ h C E M hC (fun j t hj => by rw [hr j t hj, if_neg (by omega)]) (by omega) (by omega) (by omega) (by simp [updL_cons, s3]) (by simp [updL_cons, s4]) (by simp [updL_cons, s5]) (by simp [updL_cons])
    simp only [hBlk_same, hBlk_normal, hSeq_normal, g119_C4, p5]
    rw [cBin_add _ _ _ (by omega) (by omega), loopK_normal]
    exact ih (c + 1) n _ h' C' E' M' hC' hr' (by omega) (by omega) (by omega) (by simp [updL_cons, p3]) (by simp [updL_cons, p4]) (by simp [updL_cons])
theorem ev119 (X : Call) (n : Nat) {h : AHeap} {k : Nat} (hk : k ≤ 63) {a : Value} {lo : Nat} {A : List Nat} (MA : Mat lo h a A) (hA : A.length = k) (hn : 100 ≤ n) :
    ∃ h' v C, evF EK X (n + 5) 119 [a] h = some (.ret v h') ∧ Exh h h' ∧ Mat h.next h' v C ∧ C.length = k ∧ ∀ j t, j < k → (Rl C j t ↔ Wr (fun i t => Rl A i t ∨ t = i) k j t) := by
  rw [evF_B _ _ _ _ _ _ (by kernel_rfl), g119_eq, g119]
  have hk0 : 0 < k := by rw [← hA]; exact MA.len0
  obtain ⟨OA, RA, MA'⟩ := MA.toR
  have va := MA'.v
  have hlen : ∀ K1 : K1, cLenS a K1 = K1 (I A.length) := fun K1 => by rw [va]; rfl
  obtain ⟨h1, v1, B, e1, E1, M1, hB, hrB⟩ := ev116 X (n + 2) (h := h) hk hk0 (by omega)
  obtain ⟨h2, v2, C, e2, E2, M2, hC, hrC⟩ := ev118 X n hk ((MA.ext E1).lower (Nat.zero_le _)) (M1.lower (Nat.zero_le _)) hA hB hn
  obtain ⟨O, Rs, M⟩ := (M2.lower E1.next).toR
  simp only [st0_zero]
  rw [hlen, hA, cCall_ret e1]
  simp only [asRetL_one, asTIL_one]
  rw [M1.slc, cCall_ret e2]
  simp only [asRetL_one, asTIL_one]
  rw [M2.slc]
  refine ev119_L1 X (n + 1) (n + 4) (by omega) (h0 := h) (v := v2) hk (fun i t => Rl A i t ∨ t = i) (fun o => ∃ h' v C, o = some (.ret v h') ∧ Exh h h' ∧ Mat h.next h' v C ∧ C.length = k ∧ ∀ j t, j < k → (Rl C j t ↔ Wr (fun i t => Rl A i t ∨ t = i) k j t)) _ (fun σ' h' C' E' M' hC' hr s4 => ?_) k 0 (n + 4) _ h2 C (E1.trans E2) M hC (fun j t hj => by rw [hrC j t hj, hrB j t hj]; rfl) (by omega) (by omega) (by omega) (by simp [updL_cons]) (by simp [updL_cons]) (by simp [updL_cons])
  exact ⟨h', v2, C', by simp [g119_C5, updL_cons, s4], E', M'.toM (by intro e; rw [e] at hC'; simp at hC'; omega), hC', hr⟩
end Go.Amb
end

section
/- Where a pattern leads, by rows of bits. -/
set_option linter.unusedVariables false
set_option linter.unusedSimpArgs false
namespace Go.Amb
open Go.Proofs

theorem eqV_three {y z : Value} (n : Int) (hy : ∃ a l c, y = .slice a l c) (hz : ∃ a l c, z = .slice a l c) (h1 : eqV y y = true) (h2 : eqV z z = true) : eqV (.agg [I n, y, z].toArray) (.agg [I n, y, z].toArray) = true := by
  obtain ⟨_, _, _, rfl⟩ := hy
  obtain ⟨_, _, _, rfl⟩ := hz
  simp [eqV, eqL1, eqV1, ikEq] at h1 h2 ⊢
  exact ⟨h1, h2⟩
theorem PatAt.eqV {N : Nat} {h : AHeap} {p : Pat} {a b c : Value} (H : PatAt N h p a b c) : eqV (.agg [a, b, c].toArray) (.agg [a, b, c].toArray) = true ∧ eqV c c = true := by
  obtain ⟨rfl, hb, hc⟩ := H.parts
  obtain ⟨ba, bc, hbe, _⟩ := hb.slc
  obtain ⟨ka, kc, hce, _⟩ := H.kidsSlc
  have e2 : Go.Amb.eqV c c = true := by
    rcases hc with ⟨_, rfl⟩ | ⟨i, cap, e, vs, rfl, _⟩
    · rfl
    · exact eqV_S0 _ _ _ _
  exact ⟨eqV_three _ ⟨_, _, _, hbe⟩ ⟨_, _, _, hce⟩ hb.eqV e2, e2⟩
theorem PatAt.ext {N : Nat} {h h' : AHeap} {p : Pat} {a b c : Value} (H : PatAt N h p a b c) (hN : N ≤ h.next) (E : Exh h h') : PatAt N h' p a b c := H.frame (fun i hi => E.keep i (by omega)) _

/-! ### What a pattern matches, once more -/
mutual
theorem Mt_le (c : List Int) : ∀ (p : Pat) (i t : Nat), i ≤ c.length → Mt p c i t → t ≤ c.length
  | .mk op cs ks, i, t, hi, h => by
    rw [Mt] at h
    split at h
    · obtain ⟨v, e, _, rfl⟩ := h
      have := (List.getElem?_eq_some_iff.1 e).1
      omega
    · split at h
      · exact MtSeq_le c ks i t hi h
      · split at h
        · exact MtAny_le c ks i t hi h
        · have star : ∀ i t, i ≤ c.length → Star (MtHead ks c) i t → t ≤ c.length := by
            intro i t hi h
            induction h with
            | refl x => exact hi
            | step r _ ih => exact ih (MtHead_le c ks _ _ hi r)
          split at h
          · exact star i t hi h
          · split at h
            · obtain ⟨j, a, b⟩ := h
              exact star j t (MtHead_le c ks _ _ hi a) b
            · split at h
              · rcases h with rfl | h
                · exact hi
                · exact MtHead_le c ks _ _ hi h
              · omega
theorem MtSeq_le (c : List Int) : ∀ (ks : List Pat) (i t : Nat), i ≤ c.length → MtSeq ks c i t → t ≤ c.length
  | [], i, t, hi, h => by unfold MtSeq at h; omega
  | p :: ps, i, t, hi, h => by
    unfold MtSeq at h
    obtain ⟨j, a, b⟩ := h
    exact MtSeq_le c ps j t (Mt_le c p i j hi a) b
theorem MtAny_le (c : List Int) : ∀ (ks : List Pat) (i t : Nat), i ≤ c.length → MtAny ks c i t → t ≤ c.length
  | [], i, t, hi, h => by unfold MtAny at h; exact h.elim
  | p :: ps, i, t, hi, h => by
    unfold MtAny at h
    rcases h with h | h
    · exact Mt_le c p i t hi h
    · exact MtAny_le c ps i t hi h
theorem MtHead_le (c : List Int) : ∀ (ks : List Pat) (i t : Nat), i ≤ c.length → MtHead ks c i t → t ≤ c.length
  | [], i, t, hi, h => by unfold MtHead at h; exact h.elim
  | p :: ps, i, t, hi, h => by unfold MtHead at h; exact Mt_le c p i t hi h
end
theorem MtSeq_snoc (c : List Int) (p : Pat) : ∀ (ks : List Pat) (i t : Nat), MtSeq (ks ++ [p]) c i t ↔ ∃ u, MtSeq ks c i u ∧ Mt p c u t
  | [], i, t => by simp [MtSeq]
  | k :: ks, i, t => by
    simp only [List.cons_append, MtSeq, MtSeq_snoc c p ks]
    constructor
    · rintro ⟨j, a, u, b, d⟩; exact ⟨u, ⟨j, a, b⟩, d⟩
    · rintro ⟨u, ⟨j, a, b⟩, d⟩; exact ⟨j, a, u, b, d⟩

def Spec76 (X : Call) (p : Pat) : Prop := ∀ (n : Nat) {N : Nat} {h : AHeap} {a b c cv : Value} {cl : List Int}, PatAt N h p a b c → N ≤ h.next → GoodP p → p.wt + 1000 ≤ n → NL h cv cl → eqV cv cv = true → cl.length ≤ 60 →
  ∃ h' v A, evF EK X (n + 1) 76 [.agg [a, b, c].toArray, cv] h = some (.ret v h') ∧ Exh h h' ∧ Mat h.next h' v A ∧ A.length = cl.length + 1 ∧ ∀ i t, i ≤ cl.length → (Rl A i t ↔ Mt p cl i t)
/-- What it gives. -/
def Res76 (h : AHeap) (cl : List Int) (Q : Nat → Nat → Prop) (o : Option Ans) : Prop :=
  ∃ h' v A, o = some (.ret v h') ∧ Exh h h' ∧ Mat h.next h' v A ∧ A.length = cl.length + 1 ∧ ∀ i t, i ≤ cl.length → (Rl A i t ↔ Q i t)

theorem ev76_L1 (X : Call) (q lf : Nat) (hq : 1000 ≤ q) {h0 : AHeap} {B : Nat} {a b c cv : Value} {cs cl : List Int} (hB : B < h0.next) (gB : h0.get B = .cells [a, b, c] 64 none false) (NB : NL h0 b cs) (hcs : cs.length ≤ 64) (NC : NL h0 cv cl) (hcl : cl.length ≤ 60) {v : Value} {O : Nat} {Rs : List Nat} (P : Option Ans → Prop) (K : KS)
    (k1 : ∀ σ' h' A, Exh h0 h' → MatR h0.next h' v A O Rs → A.length = cl.length + 1 → (∀ j t, j ≤ cl.length → (Rl A j t ↔ ∃ x, cl[j]? = some x ∧ x ∈ cs ∧ t = j + 1)) → σ' 6 = v → P (K (.exit 1) σ' h')) :
    ∀ (m i n : Nat) (σ : St) (h : AHeap) (A : List Nat), Exh h0 h → MatR h0.next h v A O Rs → A.length = cl.length + 1 → (∀ j t, j ≤ cl.length → (Rl A j t ↔ j < i ∧ ∃ x, cl[j]? = some x ∧ x ∈ cs ∧ t = j + 1)) → cl.length - i = m → i ≤ cl.length → m < n → σ 1 = cv → σ 2 = P0 B 0 → σ 6 = v → σ 7 = I i →
    P (loopS (g76_L1 (evF EK X (q + 1)) lf) n σ h K) := by
  obtain ⟨ca, cc, hcv, _⟩ := id NC
  have hlen : ∀ K1 : K1, cLenS cv K1 = K1 (I cl.length) := fun K1 => by rw [hcv]; rfl
  intro m
  induction m with
  | zero =>
    intro i n σ h A E M hA hr hm hi hn s1 s2 s6 s7
    obtain ⟨n, rfl⟩ : ∃ q, n = q + 1 := ⟨n - 1, by omega⟩
    have : i = cl.length := by omega
    subst this
    rw [loopS_succ, g76_L1]
    simp only [s1, s7]
    rw [hlen]
    simp only [cBin_lss, Int.lt_irrefl, decide_false, cIf_eq, Bool.false_eq_true, if_false, loopK_exit]
    refine k1 _ h A E M hA (fun j t hj => ?_) (by simp [updL_cons, s6])
    rw [hr j t hj]
    constructor
    · rintro ⟨_, q⟩; exact q
    · rintro ⟨x, e, q⟩; exact ⟨(List.getElem?_eq_some_iff.1 e).1, x, e, q⟩
  | succ m ih =>
    intro i n σ h A E M hA hr hm hi hn s1 s2 s6 s7
    obtain ⟨n, rfl⟩ : ∃ q, n = q + 1 := ⟨n - 1, by omega⟩
    have h1' : ((i : Int) < (cl.length : Int)) := by omega
    have hil : i < cl.length := by omega
    have hiA : i < A.length := by omega
    have gB' : h.get B = .cells [a, b, c] 64 none false := by rw [E.keep _ hB]; exact gB
    have c1 : h.cell? B 1 = some b := by rw [cell?_of gB']; rfl
    obtain ⟨ba, bc, hb, _⟩ := id NB
    obtain ⟨ca', cc', hcv', hck⟩ := NC.ext E
    obtain ⟨F, rfl, _, hcell⟩ := hck i cl[i] (List.getElem?_eq_getElem hil)
    have hget : cl[i]? = some cl[i] := List.getElem?_eq_getElem hil
    generalize cl[i] = x at *
    have ev1 := ev71 X q (NB.ext E) (by omega) x (by omega)
    have hidx : ∀ K1 : K1, cIdxS 1 cv (I i) K1 = K1 (P0 F i) := fun K1 => by rw [hcv']; simp only [cIdxS_slice, idx?_nat hil, ob_some, Nat.zero_add, Nat.mul_one]
    have hbs : ∀ f : K1, asLK .slc b f = f b := fun f => by rw [hb]; rfl
    rw [loopS_succ, g76_L1]
    simp only [s1, s2, s6, s7]
    rw [hlen]
    simp only [cBin_lss, h1', decide_true, cIf_eq, if_true, cFieldAddr_ptr, Nat.zero_add, rety_eq, dr_ret, cLoad1_ptr, ld1_eq, c1, ob_some]
    rw [hbs]
    simp only [rety_eq, dr_ret]
    rw [hidx]
    simp only [rety_eq, dr_ret, cLoad1_ptr, ld1_eq, hcell, ob_some, asLK_int]
    rw [cCall_ret ev1]
    simp only [asRetL_one, asTIL_one, asLK_bool, rety_eq, dr_ret, cIf_eq, decide_eq_true_eq]
    have fin : ∀ (σ' : St) (h' : AHeap) (A' : List Nat), Exh h0 h' → MatR h0.next h' v A' O Rs → A'.length = cl.length + 1 → (∀ j t, j ≤ cl.length → (Rl A' j t ↔ j < i + 1 ∧ ∃ x, cl[j]? = some x ∧ x ∈ cs ∧ t = j + 1)) → σ' 1 = cv → σ' 2 = P0 B 0 → σ' 6 = v → σ' 7 = I i → P (g76_C2 (evF EK X (q + 1)) lf σ' h' (loopK (g76_L1 (evF EK X (q + 1)) lf) n K)) := by
      intro σ' h' A' E' M' hA' hr' p1 p2 p6 p7
      rw [g76_C2]
      simp only [p7]
      rw [cBin_add _ _ _ (by omega) (by omega), loopK_normal]
      exact ih (i + 1) n _ h' A' E' M' hA' hr' (by omega) (by omega) (by omega) (by simp [updL_cons, p1]) (by simp [updL_cons, p2]) (by simp [updL_cons, p6]) (by simp [updL_cons])
    by_cases hx : x ∈ cs
    · rw [if_pos hx]
      obtain ⟨R, e1, ei, ec, eg, _, ew⟩ := M.load hiA
      have hp : 2 ^ (i + 1) < 2 ^ 64 := Nat.pow_lt_pow_right (by decide) (by omega)
      have ev2 := ev115 X q (i := i + 1) eg ew (by omega)
      rw [ei]
      simp only [cLoad1_ptr, ld1_eq, ec, ob_some, asLK_slc]
      rw [cBin_add _ _ _ (by omega) (by omega), show ((i : Int) + 1) = ((i + 1 : Nat) : Int) by omega, cCall_ret ev2]
      simp only [asRetL_unit]
      refine fin _ _ _ (M.extSet E e1 _) (M.upd e1 (Nat.or_lt_two_pow ew hp)) (by simp [hA]) (fun j t hj => ?_) (by simp [updL_cons, s1]) (by simp [updL_cons, s2]) (by simp [updL_cons, s6]) (by simp [updL_cons, s7])
      unfold Rl
      rw [gA_set hiA]
      by_cases ej : j = i
      · subst ej
        rw [if_pos rfl, rl_or, rl_pow]
        have := hr j t hj
        unfold Rl at this
        rw [this]
        constructor
        · rintro (⟨q, _⟩ | q)
          · omega
          · exact ⟨by omega, x, hget, hx, q⟩
        · rintro ⟨_, y, hy, _, q⟩; exact .inr q
      · rw [if_neg ej]
        have := hr j t hj
        unfold Rl at this
        rw [this]
        constructor
        · rintro ⟨q1, q2⟩; exact ⟨by omega, q2⟩
        · rintro ⟨q1, q2⟩; exact ⟨by omega, q2⟩
    · rw [if_neg hx]
      refine fin _ _ A E M hA (fun j t hj => ?_) (by simp [updL_cons, s1]) (by simp [updL_cons, s2]) (by simp [updL_cons, s6]) (by simp [updL_cons, s7])
      rw [hr j t hj]
      constructor
      · rintro ⟨q1, q2⟩; exact ⟨by omega, q2⟩
      · rintro ⟨q1, y, hy, hy2, q2⟩
        by_cases ej : j = i
        · subst ej; rw [hget] at hy; cases hy; exact absurd hy2 hx
        · exact ⟨by omega, y, hy, hy2, q2⟩

/-- A kid, loaded. -/
theorem kid76 {N : Nat} {h : AHeap} {p : Pat} {a b c : Value} (H : PatAt N h p a b c) {q : Nat} {k : Pat} (e : p.kids[q]? = some k) :
    ∃ i x y z, PatAt N h k x y z ∧ (∀ K1 : K1, cIdxS 3 c (I q) K1 = K1 (P0 i (q * 3))) ∧ (∀ K1 : K1, cLoadA [.int .i64, .slc, .slc] (P0 i (q * 3)) h K1 = K1 (.agg [x, y, z].toArray)) := by
  obtain ⟨i, cap, x, y, z, hc, h2, h3, h4, h5, h6, h7, h8, h9, h10, h11⟩ := H.kid e
  refine ⟨i, x, y, z, h5, fun K1 => ?_, fun K1 => ?_⟩
  · rw [hc]; simp only [cIdxS_slice, idx?_nat h2, ob_some, Nat.zero_add]
  · simp only [cLoadA_ptr, load_kid h6 h7 h8 h9 h10 h11]
theorem take_snoc {ks : List Pat} {q : Nat} {k : Pat} (e : ks[q]? = some k) : ks.take (q + 1) = ks.take q ++ [k] := by
  obtain ⟨h, rfl⟩ := List.getElem?_eq_some_iff.1 e
  rw [← List.take_append_getElem h]

theorem ev76_L5 (X : Call) (q lf : Nat) {p : Pat} (hS : ∀ k ∈ p.kids, Spec76 X k) (hg : GoodL p.kids) (hw : Pat.wtL p.kids + 1000 ≤ q + 3) {N : Nat} {h0 : AHeap} (hN : N ≤ h0.next) {B : Nat} {a b c cv : Value} {cl : List Int} (hB : B < h0.next) (gB : h0.get B = .cells [a, b, c] 64 none false) (HP : PatAt N h0 p a b c) (NC : NL h0 cv cl) (hcv : eqV cv cv = true) (hcl : cl.length ≤ 60) (P : Option Ans → Prop) (K : KS)
    (k1 : ∀ σ' h' v A, Exh h0 h' → Mat h0.next h' v A → A.length = cl.length + 1 → (∀ j t, j ≤ cl.length → (Rl A j t ↔ MtSeq p.kids cl j t)) → σ' 8 = v → P (K (.exit 3) σ' h')) :
    ∀ (m i n : Nat) (σ : St) (h : AHeap) (v : Value) (A : List Nat), Exh h0 h → Mat h0.next h v A → A.length = cl.length + 1 → (∀ j t, j ≤ cl.length → (Rl A j t ↔ MtSeq (p.kids.take i) cl j t)) → p.kids.length - i = m → i ≤ p.kids.length → m < n → σ 1 = cv → σ 2 = P0 B 0 → σ 8 = v → σ 9 = I i →
    P (loopS (g76_L5 (evF EK X (q + 4)) lf) n σ h K) := by
  obtain ⟨ka, kc, hce, hkl⟩ := HP.kidsSlc
  have hlen : ∀ K1 : K1, cLenS c K1 = K1 (I p.kids.length) := fun K1 => by rw [hce]; rfl
  have hcs : ∀ f : K1, asLK .slc c f = f c := fun f => by rw [hce]; rfl
  have hkn : p.kids.length ≤ 9223372036854775807 := hkl
  intro m
  induction m with
  | zero =>
    intro i n σ h v A E M hA hr hm hi hn s1 s2 s8 s9
    obtain ⟨n, rfl⟩ : ∃ q, n = q + 1 := ⟨n - 1, by omega⟩
    have : i = p.kids.length := by omega
    subst this
    have gB' : h.get B = .cells [a, b, c] 64 none false := by rw [E.keep _ hB]; exact gB
    have c2 : h.cell? B 2 = some c := by rw [cell?_of gB']; rfl
    rw [loopS_succ, g76_L5]
    simp only [s2, s9, cFieldAddr_ptr, Nat.zero_add, cLoad1_ptr, ld1_eq, c2, ob_some]
    rw [hcs, hlen]
    simp only [cBin_lss, Int.lt_irrefl, decide_false, cIf_eq, Bool.false_eq_true, if_false, loopK_exit]
    rw [List.take_length] at hr
    exact k1 _ h v A E M hA hr (by simp [updL_cons, s8])
  | succ m ih =>
    intro i n σ h v A E M hA hr hm hi hn s1 s2 s8 s9
    obtain ⟨n, rfl⟩ : ∃ q, n = q + 1 := ⟨n - 1, by omega⟩
    have hil : i < p.kids.length := by omega
    have h1' : ((i : Int) < (p.kids.length : Int)) := by omega
    have gB' : h.get B = .cells [a, b, c] 64 none false := by rw [E.keep _ hB]; exact gB
    have c2 : h.cell? B 2 = some c := by rw [cell?_of gB']; rfl
    have hget : p.kids[i]? = some p.kids[i] := List.getElem?_eq_getElem hil
    have hmem := List.getElem_mem hil
    generalize p.kids[i] = kd at *
    have hNh : N ≤ h.next := by have := E.next; omega
    obtain ⟨j, x, y, z, Hk, hix, hld⟩ := kid76 (HP.ext hN E) hget
    have hwk := Pat.wtL_at hget
    obtain ⟨h1, v1, A1, e1, E1, M1, hA1, hr1⟩ := hS kd hmem (q + 3) Hk hNh (hg.at hget) (by omega) (NC.ext E) hcv hcl
    obtain ⟨h2, v2, A2, e2, E2, M2, hA2, hr2⟩ := ev117 X q (k := cl.length + 1) (by omega) ((M.ext E1).lower (Nat.zero_le _)) (M1.lower (Nat.zero_le _)) hA hA1 (by omega)
    rw [loopS_succ, g76_L5]
    simp only [s1, s2, s8, s9, cFieldAddr_ptr, Nat.zero_add, cLoad1_ptr, ld1_eq, c2, ob_some]
    rw [hcs, hlen]
    simp only [cBin_lss, h1', decide_true, cIf_eq, if_true, cFieldAddr_ptr, Nat.zero_add, cLoad1_ptr, ld1_eq, c2, ob_some]
    rw [hcs, hix, hld, cCall_ret e1]
    simp only [asRetL_one, asTIL_one]
    rw [M1.slc, cCall_ret e2]
    simp only [asRetL_one, asTIL_one]
    rw [M2.slc, cBin_add _ _ _ (by omega) (by omega), loopK_normal]
    refine ih (i + 1) n _ h2 v2 A2 ((E.trans E1).trans E2) (M2.lower (by have := E.next; have := E1.next; omega)) hA2 (fun j t hj => ?_) (by omega) (by omega) (by omega) (by simp [updL_cons, s1]) (by simp [updL_cons, s2]) (by simp [updL_cons]) (by simp [updL_cons])
    rw [hr2 j t (by omega), take_snoc hget, MtSeq_snoc]
    constructor
    · rintro ⟨u, q1, q2, q3⟩
      exact ⟨u, (hr j u hj).1 q2, (hr1 u t (by omega)).1 q3⟩
    · rintro ⟨u, q1, q2⟩
      have := MtSeq_le cl _ j u hj q1
      exact ⟨u, by omega, (hr j u hj).2 q1, (hr1 u t this).2 q2⟩
theorem ev76_L7 (X : Call) (q lf : Nat) {p : Pat} (hS : ∀ k ∈ p.kids, Spec76 X k) (hg : GoodL p.kids) (hw : Pat.wtL p.kids + 1000 ≤ q + 3) {N : Nat} {h0 : AHeap} (hN : N ≤ h0.next) {B : Nat} {a b c cv : Value} {cl : List Int} (hB : B < h0.next) (gB : h0.get B = .cells [a, b, c] 64 none false) (HP : PatAt N h0 p a b c) (NC : NL h0 cv cl) (hcv : eqV cv cv = true) (hcl : cl.length ≤ 60) (P : Option Ans → Prop) (K : KS)
    (k1 : ∀ σ' h' v A, Exh h0 h' → Mat h0.next h' v A → A.length = cl.length + 1 → (∀ j t, j ≤ cl.length → (Rl A j t ↔ MtAny p.kids cl j t)) → σ' 10 = v → P (K (.exit 5) σ' h')) :
    ∀ (m i n : Nat) (σ : St) (h : AHeap) (v : Value) (A : List Nat), Exh h0 h → Mat h0.next h v A → A.length = cl.length + 1 → (∀ j t, j ≤ cl.length → (Rl A j t ↔ MtAny (p.kids.take i) cl j t)) → p.kids.length - i = m → i ≤ p.kids.length → m < n → σ 1 = cv → σ 2 = P0 B 0 → σ 10 = v → σ 11 = I i →
    P (loopS (g76_L7 (evF EK X (q + 4)) lf) n σ h K) := by
  obtain ⟨ka, kc, hce, hkl⟩ := HP.kidsSlc
  have hlen : ∀ K1 : K1, cLenS c K1 = K1 (I p.kids.length) := fun K1 => by rw [hce]; rfl
  have hcs : ∀ f : K1, asLK .slc c f = f c := fun f => by rw [hce]; rfl
  have hkn : p.kids.length ≤ 9223372036854775807 := hkl
  intro m
  induction m with
  | zero =>
    intro i n σ h v A E M hA hr hm hi hn s1 s2 s8 s9
    obtain ⟨n, rfl⟩ : ∃ q, n = q + 1 := ⟨n - 1, by omega⟩
    have : i = p.kids.length := by omega
    subst this
    have gB' : h.get B = .cells [a, b, c] 64 none false := by rw [E.keep _ hB]; exact gB
    have c2 : h.cell? B 2 = some c := by rw [cell?_of gB']; rfl
    rw [loopS_succ, g76_L7]
    simp only [s2, s9, cFieldAddr_ptr, Nat.zero_add, cLoad1_ptr, ld1_eq, c2, ob_some]
    rw [hcs, hlen]
    simp only [cBin_lss, Int.lt_irrefl, decide_false, cIf_eq, Bool.false_eq_true, if_false, loopK_exit]
    rw [List.take_length] at hr
    exact k1 _ h v A E M hA hr (by simp [updL_cons, s8])
  | succ m ih =>
    intro i n σ h v A E M hA hr hm hi hn s1 s2 s8 s9
    obtain ⟨n, rfl⟩ : ∃ q, n = q + 1 := ⟨n - 1, by omega⟩
    have hil : i < p.kids.length := by omega
    have h1' : ((i : Int) < (p.kids.length : Int)) := by omega
    have gB' : h.get B = .cells [a, b, c] 64 none false := by rw [E.keep _ hB]; exact gB
    have c2 : h.cell? B 2 = some c := by rw [cell?_of gB']; rfl
    have hget : p.kids[i]? = some p.kids[i] := List.getElem?_eq_getElem hil
    have hmem := List.getElem_mem hil
    generalize p.kids[i] = kd at *
    have hNh : N ≤ h.next := by have := E.next; omega
    obtain ⟨j, x, y, z, Hk, hix, hld⟩ := kid76 (HP.ext hN E) hget
    have hwk := Pat.wtL_at hget
    obtain ⟨h1, v1, A1, e1, E1, M1, hA1, hr1⟩ := hS kd hmem (q + 3) Hk hNh (hg.at hget) (by omega) (NC.ext E) hcv hcl
    obtain ⟨h2, v2, A2, e2, E2, M2, hA2, hr2⟩ := ev118 X q (k := cl.length + 1) (by omega) ((M.ext E1).lower (Nat.zero_le _)) (M1.lower (Nat.zero_le _)) hA hA1 (by omega)
    rw [loopS_succ, g76_L7]
    simp only [s1, s2, s8, s9, cFieldAddr_ptr, Nat.zero_add, cLoad1_ptr, ld1_eq, c2, ob_some]
    rw [hcs, hlen]
    simp only [cBin_lss, h1', decide_true, cIf_eq, if_true, cFieldAddr_ptr, Nat.zero_add, cLoad1_ptr, ld1_eq, c2, ob_some]
    rw [hcs, hix, hld, cCall_ret e1]
    simp only [asRetL_one, asTIL_one]
    rw [M1.slc, cCall_ret e2]
    simp only [asRetL_one, asTIL_one]
    rw [M2.slc, cBin_add _ _ _ (by omega) (by omega), loopK_normal]
    refine ih (i + 1) n _ h2 v2 A2 ((E.trans E1).trans E2) (M2.lower (by have := E.next; have := E1.next; omega)) hA2 (fun j t hj => ?_) (by omega) (by omega) (by omega) (by simp [updL_cons, s1]) (by simp [updL_cons, s2]) (by simp [updL_cons]) (by simp [updL_cons])
    rw [hr2 j t (by omega), take_snoc hget, hr j t hj, hr1 j t hj, MtAny_iff, MtAny_iff]
    simp only [List.mem_append, List.mem_singleton]
    constructor
    · rintro (⟨u, q1, q2⟩ | q)
      · exact ⟨u, .inl q1, q2⟩
      · exact ⟨kd, .inr rfl, q⟩
    · rintro ⟨u, q1 | rfl, q2⟩
      · exact .inl ⟨u, q1, q2⟩
      · exact .inr q2
end Go.Amb
end

section
/- Where a pattern leads: all operators; the document's Ends and Matches. -/
set_option linter.unusedVariables false
set_option linter.unusedSimpArgs false
namespace Go.Amb
open Go.Proofs

theorem star_cong {A B : Nat → Nat → Prop} {n : Nat} (h : ∀ i t, i ≤ n → (A i t ↔ B i t)) (hB : ∀ i t, i ≤ n → B i t → t ≤ n) {i t : Nat} (hi : i ≤ n) : Star A i t ↔ Star B i t := by
  constructor
  · intro s
    induction s with
    | refl x => exact .refl _
    | @step x y z r _ ih => have := (h x y hi).1 r; exact .step this (ih (hB x y hi this))
  · intro s
    induction s with
    | refl x => exact .refl _
    | @step x y z r _ ih => exact .step ((h x y hi).2 r) (ih (hB x y hi r))
theorem spec76 (X : Call) : ∀ (m : Nat) (p : Pat), p.wt ≤ m → Spec76 X p := by
  intro m
  induction m with
  | zero => intro p h; have := p.wt_eq; omega
  | succ m ih =>
    intro p hp n N h a b c cv cl HP hN hg hn NC hcv hcl
    have hwt := p.wt_eq
    obtain ⟨q, rfl⟩ : ∃ q, n = q + 5 := ⟨n - 5, by omega⟩
    have hS : ∀ kd ∈ p.kids, Spec76 X kd := fun kd hk => ih kd (by
      obtain ⟨q, hq⟩ := List.mem_iff_getElem?.1 hk
      have := Pat.wtL_at hq
      omega)
    obtain ⟨hk2, hk1, hop⟩ := good_kids hg
    obtain ⟨gf, gr, gL⟩ := hg.eq
    obtain ⟨ha, hb, _⟩ := HP.parts
    obtain ⟨ka, kc, hce, hkl⟩ := HP.kidsSlc
    obtain ⟨ca, cc, hcve, _⟩ := id NC
    subst ha
    have gcs := gc_of gr
    have hclen := gcs.len
    have E0 := Exh.new h (.cells [I p.op, b, c] 64 none false)
    have HP0 := HP.ext hN E0
    have NC0 := NC.ext E0
    have NB0 := (hb.nl hN).ext E0
    have gB := get_new_self h (.cells [I p.op, b, c] 64 none false)
    have nB : h.next < (h.new (.cells [I p.op, b, c] 64 none false)).next := by simp
    have hlen : ∀ K1 : K1, cLenS cv K1 = K1 (I cl.length) := fun K1 => by rw [hcve]; rfl
    have hcs : ∀ f : K1, asLK .slc c f = f c := fun f => by rw [hce]; rfl
    rw [evF_B _ _ _ _ _ _ (by kernel_rfl), g76_eq, g76]
    simp only [st0_zero, st0_succ, cNew_eq, Value.cells, List.toList_toArray]
    generalize h.new (.cells [I p.op, b, c] 64 none false) = h0 at *
    have c0 : h0.cell? h.next 0 = some (I p.op) := by rw [cell?_of gB]; rfl
    have c2 : h0.cell? h.next 2 = some c := by rw [cell?_of gB]; rfl
    have hN0 : N ≤ h0.next := by omega
    rw [hlen, cBin_add _ _ _ (by omega) (by omega), show ((cl.length : Int) + 1) = ((cl.length + 1 : Nat) : Int) by omega]
    simp only [cFieldAddr_ptr, Nat.zero_add, cLoad1_ptr, ld1_eq, c0, ob_some, asLK_int, cBin_eql]
    have lower : ∀ {h' : AHeap} {v : Value} {A : List Nat}, Mat h0.next h' v A → Mat h.next h' v A := fun M => M.lower (by omega)
    have hMt : ∀ i t, Mt p cl i t = _ := fun i t => Mt_eq p cl i t
    show Res76 h cl (Mt p cl) _
    have kid0 : p.op = 4 ∨ p.op = 5 ∨ p.op = 6 → ∃ kd i x y z, p.kids = [kd] ∧ PatAt N h0 kd x y z ∧ (∀ K1 : K1, cIdxS 3 c (.int .i64 0) K1 = K1 (P0 i 0)) ∧ (∀ h', Exh h0 h' → ∀ K1 : K1, cLoadA [.int .i64, .slc, .slc] (P0 i 0) h' K1 = K1 (.agg [x, y, z].toArray)) := by
      intro ho
      have := hk1 ho
      obtain ⟨kd, hkd⟩ : ∃ kd, p.kids = [kd] := by
        match hh : p.kids, this with
        | [kd], _ => exact ⟨kd, rfl⟩
      have hg0 : p.kids[0]? = some kd := by rw [hkd]; rfl
      obtain ⟨i, cap, x, y, z, hc, h2, h3, h4, h5, h6, h7, h8, h9, h10, h11⟩ := HP0.kid hg0
      refine ⟨kd, i, x, y, z, hkd, h5, fun K1 => ?_, fun h' E' K1 => ?_⟩
      · rw [hc, show (Value.int .i64 0) = I ((0 : Nat) : Int) from rfl]
        simp only [cIdxS_slice, idx?_nat h2, ob_some, Nat.zero_add, Nat.zero_mul]
      · have k : ∀ o, h'.cell? i o = h0.cell? i o := fun o => cell?_keep (E'.keep i (by omega))
        simp only [cLoadA_ptr]
        rw [load_kid h6 h7 h8 (by rw [k]; exact h9) (by rw [k]; exact h10) (by rw [k]; exact h11)]
    by_cases e1 : p.op = 1
    · simp only [decide_eq_true e1, cIf_eq, if_true]
      obtain ⟨h1, v1, r1, E1, M1⟩ := ev114 X (q + 4) (h := h0) (k := cl.length + 1) (by omega) (by omega) (by omega)
      obtain ⟨O, Rs, M⟩ := M1.toR
      rw [cCall_ret r1]
      simp only [asRetL_one, asTIL_one]
      rw [M.slc]
      refine ev76_L1 X (q + 4) (q + 5) (by omega) (h0 := h0) (v := v1) nB gB NB0 hclen NC0 hcl (Res76 h cl (Mt p cl)) _ (fun σ' h' A E' M' hA hr s6 => ?_) cl.length 0 (q + 5) _ h1 (List.replicate (cl.length + 1) 0) E1 M (by simp) (fun j t _ => by unfold Rl; rw [gA_rep]; simp) (by omega) (by omega) (by omega) (by simp [updL_cons]) (by simp [updL_cons]) (by simp [updL_cons]) (by simp [updL_cons])
      simp only [hBlk_same, hSeq_normal, g76_C3, updL_cons, updL_nil, ↓reduceIte, Nat.reduceEqDiff, s6, finS_ret, evResS_tmp, evResS_nil, retOf_one]
      refine ⟨h', v1, A, rfl, E0.trans E', lower (M'.toM (by intro e; rw [e] at hA; simp at hA)), hA, fun i t hi => ?_⟩
      rw [hr i t hi, hMt, if_pos e1]
    · simp only [decide_eq_false e1, cIf_eq, Bool.false_eq_true, if_false, cBin_eql]
      by_cases e2 : p.op = 2
      · simp only [decide_eq_true e2, cIf_eq, if_true]
        obtain ⟨h1, v1, A1, r1, E1, M1, hA1, hr1⟩ := ev116 X (q + 3) (h := h0) (k := cl.length + 1) (by omega) (by omega) (by omega)
        rw [cCall_ret r1]
        simp only [asRetL_one, asTIL_one]
        rw [M1.slc]
        have := Pat.wtL_ge p.kids
        refine ev76_L5 X (q + 1) (q + 5) hS gL (by omega) hN0 (h0 := h0) nB gB HP0 NC0 hcv hcl (Res76 h cl (Mt p cl)) _ (fun σ' h' v A E' M' hA hr s8 => ?_) p.kids.length 0 (q + 5) _ h1 v1 A1 E1 M1 hA1 (fun j t hj => by rw [hr1 j t (by omega)]; simp [MtSeq]; exact eq_comm) (by omega) (by omega) (by omega) (by simp [updL_cons]) (by simp [updL_cons]) (by simp [updL_cons]) (by simp [updL_cons])
        simp only [hBlk_same, hSeq_normal, g76_C6, updL_cons, updL_nil, ↓reduceIte, Nat.reduceEqDiff, s8, finS_ret, evResS_tmp, evResS_nil, retOf_one]
        refine ⟨h', v, A, rfl, E0.trans E', lower M', hA, fun i t hi => ?_⟩
        rw [hr i t hi, hMt, if_neg e1, if_pos e2]
      · simp only [decide_eq_false e2, cIf_eq, Bool.false_eq_true, if_false, cBin_eql]
        by_cases e3 : p.op = 3
        · simp only [decide_eq_true e3, cIf_eq, if_true]
          obtain ⟨h1, v1, r1, E1, M1⟩ := ev114 X (q + 4) (h := h0) (k := cl.length + 1) (by omega) (by omega) (by omega)
          rw [cCall_ret r1]
          simp only [asRetL_one, asTIL_one]
          rw [M1.slc]
          have := Pat.wtL_ge p.kids
          refine ev76_L7 X (q + 1) (q + 5) hS gL (by omega) hN0 (h0 := h0) nB gB HP0 NC0 hcv hcl (Res76 h cl (Mt p cl)) _ (fun σ' h' v A E' M' hA hr s8 => ?_) p.kids.length 0 (q + 5) _ h1 v1 (List.replicate (cl.length + 1) 0) E1 M1 (by simp) (fun j t hj => by unfold Rl; rw [gA_rep]; simp [MtAny]) (by omega) (by omega) (by omega) (by simp [updL_cons]) (by simp [updL_cons]) (by simp [updL_cons]) (by simp [updL_cons])
          simp only [hBlk_same, hSeq_normal, g76_C8, updL_cons, updL_nil, ↓reduceIte, Nat.reduceEqDiff, s8, finS_ret, evResS_tmp, evResS_nil, retOf_one]
          refine ⟨h', v, A, rfl, E0.trans E', lower M', hA, fun i t hi => ?_⟩
          rw [hr i t hi, hMt, if_neg e1, if_neg e2, if_pos e3]
        · simp only [decide_eq_false e3, cIf_eq, Bool.false_eq_true, if_false, cBin_eql]
          by_cases e4 : p.op = 4
          · simp only [decide_eq_true e4, cIf_eq, if_true, cFieldAddr_ptr, Nat.zero_add, cLoad1_ptr, ld1_eq, c2, ob_some]
            obtain ⟨kd, i, x, y, z, hkd, HK, hix, hld⟩ := kid0 (.inl e4)
            have hwk := Pat.wtL_at (show p.kids[0]? = some kd by rw [hkd]; rfl)
            have gk := gL.at (show p.kids[0]? = some kd by rw [hkd]; rfl)
            obtain ⟨h1, v1, A1, r1, E1, M1, hA1, hr1⟩ := hS kd (by rw [hkd]; simp) (q + 4) HK hN0 gk (by omega) NC0 hcv hcl
            obtain ⟨h2, v2, A2, r2, E2, M2, hA2, hr2⟩ := ev119 X q (k := cl.length + 1) (by omega) M1 hA1 (by omega)
            rw [hcs, hix, hld h0 (Exh.refl _), cCall_ret r1]
            simp only [asRetL_one, asTIL_one]
            rw [M1.slc, cCall_ret r2]
            simp only [asRetL_one, asTIL_one]
            rw [M2.slc]
            simp only [updL_cons, updL_nil, ↓reduceIte, Nat.reduceEqDiff, finS_ret, evResS_tmp, evResS_nil, retOf_one]
            refine ⟨h2, v2, A2, rfl, (E0.trans E1).trans E2, M2.lower (by have := E0.next; have := E1.next; omega), hA2, fun i t hi => ?_⟩
            have cl1 : ∀ i t, i < cl.length + 1 → Rl A1 i t → t < cl.length + 1 := fun i t hi h => by
              have := Mt_le cl kd i t (by omega) ((hr1 i t (by omega)).1 h); omega
            rw [hr2 i t (by omega), Wr.star cl1 (by omega), hMt, if_neg e1, if_neg e2, if_neg e3, if_pos e4, hkd]
            exact star_cong (n := cl.length) (fun i t hi => by rw [hr1 i t hi]; rfl) (fun i t hi h => by unfold MtHead at h; exact Mt_le cl kd i t hi h) hi
          · simp only [decide_eq_false e4, cIf_eq, Bool.false_eq_true, if_false, cBin_eql]
            by_cases e5 : p.op = 5
            · simp only [decide_eq_true e5, cIf_eq, if_true, cFieldAddr_ptr, Nat.zero_add, cLoad1_ptr, ld1_eq, c2, ob_some]
              obtain ⟨kd, i, x, y, z, hkd, HK, hix, hld⟩ := kid0 (.inr (.inl e5))
              have hwk := Pat.wtL_at (show p.kids[0]? = some kd by rw [hkd]; rfl)
              have gk := gL.at (show p.kids[0]? = some kd by rw [hkd]; rfl)
              obtain ⟨h1, v1, A1, r1, E1, M1, hA1, hr1⟩ := hS kd (by rw [hkd]; simp) (q + 4) HK hN0 gk (by omega) NC0 hcv hcl
              obtain ⟨h2, v2, A2, r2, E2, M2, hA2, hr2⟩ := ev119 X q (k := cl.length + 1) (by omega) M1 hA1 (by omega)
              obtain ⟨h3, v3, A3, r3, E3, M3, hA3, hr3⟩ := ev117 X (q + 1) (k := cl.length + 1) (by omega) ((M1.ext E2).lower (Nat.zero_le _)) (M2.lower (Nat.zero_le _)) hA1 hA2 (by omega)
              rw [hcs, hix, hld h0 (Exh.refl _), cCall_ret r1]
              simp only [asRetL_one, asTIL_one]
              rw [M1.slc, cCall_ret r2]
              simp only [asRetL_one, asTIL_one]
              rw [M2.slc, cCall_ret r3]
              simp only [asRetL_one, asTIL_one]
              rw [M3.slc]
              simp only [updL_cons, updL_nil, ↓reduceIte, Nat.reduceEqDiff, finS_ret, evResS_tmp, evResS_nil, retOf_one]
              refine ⟨h3, v3, A3, rfl, ((E0.trans E1).trans E2).trans E3, M3.lower (by have := E0.next; have := E1.next; have := E2.next; omega), hA3, fun i t hi => ?_⟩
              have cl1 : ∀ i t, i < cl.length + 1 → Rl A1 i t → t < cl.length + 1 := fun i t hi h => by
                have := Mt_le cl kd i t (by omega) ((hr1 i t (by omega)).1 h); omega
              have hstar : ∀ u, u ≤ cl.length → (Rl A2 u t ↔ Star (MtHead p.kids cl) u t) := fun u hu => by
                rw [hr2 u t (by omega), Wr.star cl1 (by omega), hkd]
                exact star_cong (n := cl.length) (fun i t hi => by rw [hr1 i t hi]; rfl) (fun i t hi h => by unfold MtHead at h; exact Mt_le cl kd i t hi h) hu
              rw [hr3 i t (by omega), hMt, if_neg e1, if_neg e2, if_neg e3, if_neg e4, if_pos e5]
              constructor
              · rintro ⟨u, q1, q2, q3⟩
                exact ⟨u, by rw [hkd]; exact (hr1 i u hi).1 q2, (hstar u (by omega)).1 q3⟩
              · rintro ⟨u, q1, q2⟩
                have q1' : Mt kd cl i u := by rw [hkd] at q1; exact q1
                have := Mt_le cl kd i u hi q1'
                exact ⟨u, by omega, (hr1 i u hi).2 q1', (hstar u this).2 q2⟩
            · simp only [decide_eq_false e5, cIf_eq, Bool.false_eq_true, if_false, cBin_eql]
              by_cases e6 : p.op = 6
              · obtain ⟨kd, i, x, y, z, hkd, HK, hix, hld⟩ := kid0 (.inr (.inr e6))
                have hwk := Pat.wtL_at (show p.kids[0]? = some kd by rw [hkd]; rfl)
                have gk := gL.at (show p.kids[0]? = some kd by rw [hkd]; rfl)
                obtain ⟨h1, v1, A1, r1, E1, M1, hA1, hr1⟩ := ev116 X (q + 3) (h := h0) (k := cl.length + 1) (by omega) (by omega) (by omega)
                obtain ⟨h2, v2, A2, r2, E2, M2, hA2, hr2⟩ := hS kd (by rw [hkd]; simp) (q + 4) (HK.ext hN0 E1) (by have := E1.next; omega) gk (by omega) (NC0.ext E1) hcv hcl
                obtain ⟨h3, v3, A3, r3, E3, M3, hA3, hr3⟩ := ev118 X (q + 1) (k := cl.length + 1) (by omega) ((M1.ext E2).lower (Nat.zero_le _)) (M2.lower (Nat.zero_le _)) hA1 hA2 (by omega)
                have c2' : h1.cell? h.next 2 = some c := by rw [cell?_keep (E1.keep _ nB)]; exact c2
                have q1 := HK.eqV.1
                have q2 := HP.eqV.2
                simp only [decide_eq_true e6, cIf_eq, if_true, cFieldAddr_ptr, Nat.zero_add, rety_eq, dr_ret, cLoad1_ptr, ld1_eq, c2, ob_some]
                rw [hcs]
                simp only [rety_eq, dr_ret]
                rw [hix]
                simp only [rety_eq, dr_ret]
                rw [hld h0 (Exh.refl _)]
                simp only [rety_eq, dr_ret]
                rw [cCall_ret r1]
                simp only [asRetL_one, asTIL_one]
                rw [M1.slc]
                simp only [rety_eq, dr_ret]
                rw [rk_ret hcv, hld h1 E1, rk_ret q1, hix, rk_ret (eqV_ptr _ _)]
                simp only [c2', ob_some]
                rw [hcs, rk_ret q2, rk_ret (eqV_ptr _ _), cCall_ret r2]
                simp only [asRetL_one, asTIL_one]
                rw [M2.slc]
                simp only [rety_eq, dr_ret]
                rw [cCall_ret r3]
                simp only [asRetL_one, asTIL_one]
                rw [M3.slc]
                simp only [rety_eq, dr_ret, updL_cons, updL_nil, ↓reduceIte, Nat.reduceEqDiff, finS_ret, evResS_tmp, evResS_nil, retOf_one]
                refine ⟨h3, v3, A3, rfl, ((E0.trans E1).trans E2).trans E3, M3.lower (by have := E0.next; have := E1.next; have := E2.next; omega), hA3, fun i t hi => ?_⟩
                rw [hr3 i t (by omega), hr1 i t (by omega), hr2 i t hi, hMt, if_neg e1, if_neg e2, if_neg e3, if_neg e4, if_neg e5, if_pos e6, hkd]
                constructor
                · rintro (q | q)
                  · exact .inl q.symm
                  · exact .inr q
                · rintro (q | q)
                  · exact .inl q.symm
                  · exact .inr q
              · simp only [decide_eq_false e6, cIf_eq, Bool.false_eq_true, if_false]
                obtain ⟨h1, v1, A1, r1, E1, M1, hA1, hr1⟩ := ev116 X (q + 3) (h := h0) (k := cl.length + 1) (by omega) (by omega) (by omega)
                rw [g76_C4]
                simp only [updL_cons, updL_nil, ↓reduceIte, Nat.reduceEqDiff]
                rw [cCall_ret r1]
                simp only [asRetL_one, asTIL_one]
                rw [M1.slc]
                simp only [updL_cons, updL_nil, ↓reduceIte, Nat.reduceEqDiff, finS_ret, evResS_tmp, evResS_nil, retOf_one]
                refine ⟨h1, v1, A1, rfl, E0.trans E1, lower M1, hA1, fun i t hi => ?_⟩
                rw [hr1 i t (by omega), hMt, if_neg e1, if_neg e2, if_neg e3, if_neg e4, if_neg e5, if_neg e6]
                exact eq_comm
end Go.Amb
end

section
/- The document's Ends and Matches. -/
set_option linter.unusedVariables false
set_option linter.unusedSimpArgs false
namespace Go.Amb
open Go.Proofs

theorem rises_mono {C : Int} (hC : 64 ≤ C) : ∀ (l : List Int) (q : Option Int), risesGo 64 q l = true → risesGo C q l = true
  | [], q, _ => rfl
  | x :: l, q, h => by
    simp only [risesGo, Bool.and_eq_true, decide_eq_true_eq] at h ⊢
    exact ⟨⟨⟨h.1.1.1, by omega⟩, h.1.2⟩, rises_mono hC l _ h.2⟩
theorem nodeF_mono {C : Int} (hC : 64 ≤ C) {op : Int} {nk : Nat} {cs : List Int} (h : nodeF 64 op nk cs = 0) : nodeF C op nk cs = 0 := by
  obtain ⟨a, b⟩ := nodeF_zero h
  unfold nodeF
  rw [if_pos a, if_pos (rises_mono hC cs none b)]
theorem kidsF_ne (C : Int) (ks : List Pat) (e : Int) (n : Nat) (h : e ≠ 0) : (kidsF C ks e n).1 ≠ 0 := by
  cases ks with
  | nil => simpa [kidsF] using h
  | cons k ks => simp only [kidsF, if_neg h]; exact h
mutual
theorem check_mono {C : Int} (hC : 64 ≤ C) : ∀ (p : Pat) (n : Nat), (checkF 64 p n).1 = 0 → checkF C p n = checkF 64 p n
  | .mk op cs ks, n, h => by
    rw [checkF_eq] at h ⊢
    rw [checkF_eq]
    by_cases hn : 2048 ≤ n
    · rw [if_pos hn, if_pos hn]
    · rw [if_neg hn] at h ⊢
      rw [if_neg hn]
      simp only [Pat.kids, Pat.op, Pat.cls] at h ⊢
      have h0 : nodeF 64 op ks.length cs = 0 := by
        by_cases e : nodeF 64 op ks.length cs = 0
        · exact e
        · exact absurd h (kidsF_ne _ _ _ _ e)
      rw [nodeF_mono hC h0, h0]
      rw [h0] at h
      exact kids_mono hC ks 0 (n + 1) h
theorem kids_mono {C : Int} (hC : 64 ≤ C) : ∀ (ks : List Pat) (e : Int) (n : Nat), (kidsF 64 ks e n).1 = 0 → kidsF C ks e n = kidsF 64 ks e n
  | [], e, n, h => rfl
  | k :: ks, e, n, h => by
    simp only [kidsF] at h ⊢
    by_cases he : e = 0
    · rw [if_pos he] at h ⊢
      rw [if_pos he]
      have h0 : (checkF 64 k n).1 = 0 := by
        by_cases e : (checkF 64 k n).1 = 0
        · exact e
        · exact absurd h (kidsF_ne _ _ _ _ e)
      rw [check_mono hC k n h0]
      exact kids_mono hC ks _ _ h
    · rw [if_neg he, if_neg he]
end

theorem ev75 (X : Call) (n : Nat) {N : Nat} {h : AHeap} {p : Pat} {a b c : Value} (HP : PatAt N h p a b c) (hN : N ≤ h.next) (h0 : (checkF 64 p 0).1 = 0) (hn : p.wt ≤ n) :
    ∃ h', evF EK X (n + 2) 75 [.agg [a, b, c].toArray] h = some (.ret (.bool true) h') ∧ Exh h h' := by
  rw [evF_B _ _ _ _ _ _ (by kernel_rfl), g75_eq, g75]
  obtain ⟨ha, hb, _⟩ := HP.parts
  obtain ⟨ka, kc, hce, hk⟩ := HP.kidsSlc
  obtain ⟨ba, bc, hbe, hbl⟩ := hb.slc
  have E := Exh.new h (.cells [a, b, c] 64 none false)
  have HP' := HP.ext hN E
  have gB := get_new_self h (.cells [a, b, c] 64 none false)
  simp only [st0_zero, cNew_eq, Value.cells, List.toList_toArray]
  generalize h.new (.cells [a, b, c] 64 none false) = h1 at *
  have hld : ∀ (R : Type) (f : List Value → Option R), h1.ldL h.next [.int .i64, .slc, .slc] 0 f = f [a, b, c] := fun R f =>
    load_kid ha ⟨_, _, _, hbe⟩ ⟨_, _, _, hce⟩ (by rw [cell?_of gB]; rfl) (by rw [cell?_of gB]; rfl) (by rw [cell?_of gB]; rfl)
  obtain ⟨h2, e2, k1, k2⟩ := ev62 X n HP' (by have := E.next; omega) 2147483647 hn
  rw [check_mono (by decide) p 0 h0, h0] at e2
  simp only [cLoadA_ptr, hld]
  rw [cCall_ret e2]
  simp only [asRetL_one, asTIL_one, asLK_int, cBin_eql, decide_true]
  exact ⟨h2, by simp [updL_cons], E.trans ⟨k1, k2⟩⟩

theorem ev39_loop (X : Call) (q lf : Nat) {h0 : AHeap} {R w : Nat} (hR : h0.cell? R 0 = some (U w)) (hRn : R < h0.next) (hw : w < 2 ^ 64) {cv : Value} {cl : List Int} (NC : NL h0 cv cl) (hcl : cl.length ≤ 60) (Q : Nat → Prop) (hQ : ∀ t, w.testBit t = true ↔ Q t) (P : Option Ans → Prop) (K : KS)
    (k1 : ∀ σ' h' v fp, OutF h0 h' v (pick Q (cl.length + 1) 0) fp → σ' 6 = v → P (K (.exit 0) σ' h')) :
    ∀ (m i n : Nat) (σ : St) (h : AHeap) (v : Value) (out : List Int) (fp : List Nat), OutF h0 h v out fp → out.length ≤ i → out ++ pick Q (cl.length + 1 - i) i = pick Q (cl.length + 1) 0 → cl.length + 1 - i = m → i ≤ cl.length + 1 → m < n → σ 1 = cv → σ 5 = S0 R 0 1 1 → σ 6 = v → σ 7 = I i →
    P (loopS (g39_L1 (evF EK X (q + 1)) lf) n σ h K) := by
  obtain ⟨ca, cc, hcv, _⟩ := id NC
  have hlen : ∀ K1 : K1, cLenS cv K1 = K1 (I cl.length) := fun K1 => by rw [hcv]; rfl
  intro m
  induction m with
  | zero =>
    intro i n σ h v out fp O ho hout hm hi hn s1 s5 s6 s7
    obtain ⟨n, rfl⟩ : ∃ q, n = q + 1 := ⟨n - 1, by omega⟩
    have : i = cl.length + 1 := by omega
    subst this
    have x1 : ¬ (((cl.length + 1 : Nat) : Int) ≤ (cl.length : Int)) := by omega
    rw [loopS_succ, g39_L1]
    simp only [s1, s7]
    rw [hlen]
    simp only [cBin_leq, x1, decide_false, cIf_eq, Bool.false_eq_true, if_false, loopK_exit]
    rw [hm] at hout
    simp only [pick, List.append_nil] at hout
    subst hout
    exact k1 _ h v fp O (by simp [updL_cons, s6])
  | succ m ih =>
    intro i n σ h v out fp O ho hout hm hi hn s1 s5 s6 s7
    obtain ⟨n, rfl⟩ : ∃ q, n = q + 1 := ⟨n - 1, by omega⟩
    have h1' : ((i : Int) ≤ (cl.length : Int)) := by omega
    have hR' : h.cell? R 0 = some (U w) := by rw [cell?_keep (O.ext.keep R hRn)]; exact hR
    have ev1 := ev77 X q (i := i) hR' hw (by omega)
    have e1 : cl.length + 1 - i = (cl.length + 1 - (i + 1)) + 1 := by omega
    rw [e1, pick] at hout
    rw [loopS_succ, g39_L1]
    simp only [s1, s5, s6, s7]
    rw [hlen]
    simp only [cBin_leq, h1', decide_true, cIf_eq, if_true]
    rw [cCall_ret ev1]
    simp only [asRetL_one, asTIL_one, asLK_bool, cIf_eq]
    have fin : ∀ (σ' : St) (h' : AHeap) (v' : Value) (out' : List Int) (fp' : List Nat), OutF h0 h' v' out' fp' → out'.length ≤ i + 1 → out' ++ pick Q (cl.length + 1 - (i + 1)) (i + 1) = pick Q (cl.length + 1) 0 → σ' 1 = cv → σ' 5 = S0 R 0 1 1 → σ' 6 = v' → σ' 7 = I i → P (g39_C2 (evF EK X (q + 1)) lf σ' h' (loopK (g39_L1 (evF EK X (q + 1)) lf) n K)) := by
      intro σ' h' v' out' fp' O' ho' hout' p1 p5 p6 p7
      rw [g39_C2]
      simp only [p7]
      rw [cBin_add _ _ _ (by omega) (by omega), loopK_normal]
      exact ih (i + 1) n _ h' v' out' fp' O' ho' hout' (by omega) (by omega) (by omega) (by simp [updL_cons, p1]) (by simp [updL_cons, p5]) (by simp [updL_cons, p6]) (by simp [updL_cons])
    by_cases hb : w.testBit i = true
    · rw [if_pos hb]
      rw [if_pos ((hQ i).1 hb)] at hout
      obtain ⟨a, nn, c', h3, w3, hv, O3, hK, _⟩ := O.push (i : Int) (by omega)
      subst hv
      rw [hK]
      exact fin _ h3 w3 _ _ O3 (by simp; omega) (by rw [List.append_assoc]; exact hout) (by simp [updL_cons, s1]) (by simp [updL_cons, s5]) (by simp [updL_cons]) (by simp [updL_cons, s7])
    · rw [if_neg hb]
      rw [if_neg fun q => hb ((hQ i).2 q)] at hout
      exact fin _ h v out fp O (by omega) hout (by simp [updL_cons, s1]) (by simp [updL_cons, s5]) (by simp [updL_cons, s6]) (by simp [updL_cons, s7])
abbrev Rk (p : Pat) (cl : List Int) : Nat → Prop := fun t => Mt p cl 0 t
theorem ev39 (X : Call) (n : Nat) {N : Nat} {h : AHeap} {p : Pat} {a b c cv : Value} {cl : List Int} (HP : PatAt N h p a b c) (hN : N ≤ h.next) (h0 : (checkF 64 p 0).1 = 0) (hn : p.wt + 1000 ≤ n) (NC : NL h cv cl) (hcv : eqV cv cv = true) (hcl : cl.length ≤ 60) :
    ∃ h' w, evF EK X (n + 3) 39 [.agg [a, b, c].toArray, cv] h = some (.ret w h') ∧ Exh h h' ∧ NL h' w (pick (Rk p cl) (cl.length + 1) 0) := by
  rw [evF_B _ _ _ _ _ _ (by kernel_rfl), g39_eq, g39]
  obtain ⟨ha, hb, _⟩ := HP.parts
  obtain ⟨ka, kc, hce, hk⟩ := HP.kidsSlc
  obtain ⟨ba, bc, hbe, hbl⟩ := hb.slc
  have E := Exh.new h (.cells [a, b, c] 64 none false)
  have HP' := HP.ext hN E
  have gB := get_new_self h (.cells [a, b, c] 64 none false)
  have nB : h.next < (h.new (.cells [a, b, c] 64 none false)).next := by simp
  simp only [st0_zero, st0_succ, cNew_eq, Value.cells, List.toList_toArray]
  generalize h.new (.cells [a, b, c] 64 none false) = h1 at *
  have hld : ∀ (h' : AHeap) (R : Type) (f : List Value → Option R), h'.get h.next = .cells [a, b, c] 64 none false → h'.ldL h.next [.int .i64, .slc, .slc] 0 f = f [a, b, c] := fun h' R f hg =>
    load_kid ha ⟨_, _, _, hbe⟩ ⟨_, _, _, hce⟩ (by rw [cell?_of hg]; rfl) (by rw [cell?_of hg]; rfl) (by rw [cell?_of hg]; rfl)
  have hN1 : N ≤ h1.next := by have := E.next; omega
  obtain ⟨h2, e2, E2⟩ := ev75 X n HP' hN1 h0 (by omega)
  have gB2 : h2.get h.next = .cells [a, b, c] 64 none false := by rw [E2.keep _ nB]; exact gB
  obtain ⟨h3, v3, A, e3, E3, M3, hA, hr⟩ := spec76 X p.wt p (Nat.le_refl _) (n + 1) (HP'.ext hN1 E2) (by have := E2.next; omega) (check_good p h0).1 (by omega) ((NC.ext E).ext E2) hcv hcl
  obtain ⟨O, Rs, M⟩ := M3.toR
  obtain ⟨R, f1, fi, fc, fg, fcc, fw⟩ := M.load (i := 0) (by omega)
  have hRn := (M.r 0 R (gA A 0) f1 (by rw [gA_at (by omega)]; exact List.getElem?_eq_getElem (by omega))).2.1
  simp only [cLoadA_ptr, hld _ _ _ gB]
  rw [cCall_ret e2]
  simp only [asRetL_one, asTIL_one, asLK_bool, cUn_not, Bool.not_true, cIf_eq, Bool.false_eq_true, if_false, cLoadA_ptr, hld _ _ _ gB2]
  rw [cCall_ret e3]
  simp only [asRetL_one, asTIL_one]
  rw [M.slc, show (Value.int .i64 0) = I ((0 : Nat) : Int) from rfl, fi]
  simp only [cLoad1_ptr, ld1_eq, fc, ob_some, asLK_slc]
  refine ev39_loop X (n + 1) (n + 2) fcc hRn fw (((NC.ext E).ext E2).ext E3) hcl (Rk p cl) (fun t => hr 0 t (Nat.zero_le _)) (fun o => ∃ h' w, o = some (.ret w h') ∧ Exh h h' ∧ NL h' w (pick (Rk p cl) (cl.length + 1) 0)) _ (fun σ' h' v fp O' s6 => ?_) (cl.length + 1) 0 (n + 2) _ h3 nilS [] [] (OutF.start h3) (by simp) (by simp) (by omega) (by omega) (by omega) (by simp [updL_cons]) (by simp [updL_cons]) (by simp [updL_cons]) (by simp [updL_cons])
  exact ⟨h', v, by simp [g39_C3, updL_cons, s6], ((E.trans E2).trans E3).trans O'.ext, O'.nl⟩
theorem ev36 (X : Call) (n : Nat) {N : Nat} {h : AHeap} {p : Pat} {a b c cv : Value} {cl : List Int} (HP : PatAt N h p a b c) (hN : N ≤ h.next) (h0 : (checkF 64 p 0).1 = 0) (hn : p.wt + 1000 ≤ n) (NC : NL h cv cl) (hcv : eqV cv cv = true) (hcl : cl.length ≤ 60) :
    ∃ h', evF EK X (n + 4) 36 [.agg [a, b, c].toArray, cv] h = some (.ret (.bool (decide ((cl.length : Int) ∈ pick (Rk p cl) (cl.length + 1) 0))) h') ∧ Exh h h' := by
  rw [evF_B _ _ _ _ _ _ (by kernel_rfl), g36_eq, g36]
  obtain ⟨ha, hb, _⟩ := HP.parts
  obtain ⟨ka, kc, hce, hk⟩ := HP.kidsSlc
  obtain ⟨ba, bc, hbe, hbl⟩ := hb.slc
  have E := Exh.new h (.cells [a, b, c] 64 none false)
  have HP' := HP.ext hN E
  have gB := get_new_self h (.cells [a, b, c] 64 none false)
  simp only [st0_zero, st0_succ, cNew_eq, Value.cells, List.toList_toArray]
  generalize h.new (.cells [a, b, c] 64 none false) = h1 at *
  have hld : ∀ (h' : AHeap) (R : Type) (f : List Value → Option R), h'.get h.next = .cells [a, b, c] 64 none false → h'.ldL h.next [.int .i64, .slc, .slc] 0 f = f [a, b, c] := fun h' R f hg =>
    load_kid ha ⟨_, _, _, hbe⟩ ⟨_, _, _, hce⟩ (by rw [cell?_of hg]; rfl) (by rw [cell?_of hg]; rfl) (by rw [cell?_of hg]; rfl)
  obtain ⟨h2, w, e2, E2, N2⟩ := ev39 X n HP' (by have := E.next; omega) h0 hn (NC.ext E) hcv hcl
  have hlp := length_pick (Rk p cl) (cl.length + 1) 0
  have e3 := ev71 X (n + 2) N2 (by omega) (cl.length : Int) (by omega)
  obtain ⟨ca, cc, hcve, _⟩ := id NC
  obtain ⟨wa, wc, hw, _⟩ := id N2
  have hws : ∀ f : K1, asLK .slc w f = f w := fun f => by rw [hw]; rfl
  simp only [cLoadA_ptr, hld _ _ _ gB]
  rw [cCall_ret e2]
  simp only [asRetL_one, asTIL_one]
  rw [hws, hcve]
  simp only [cLenS_eq]
  rw [cCall_ret e3]
  simp only [asRetL_one, asTIL_one, asLK_bool]
  exact ⟨h2, by simp [updL_cons], E.trans E2⟩
end Go.Amb
end

section
/- NfaKleene: the law in the abstract heap. -/
set_option linter.unusedVariables false
set_option linter.unusedSimpArgs false
namespace Go.Amb
open Go.Proofs

def EdGc (s : List NS) : Prop := ∀ st ∈ s, ∀ ed ∈ st.edges, GC ed.1
theorem EdGc.new {s : List NS} (H : EdGc s) : EdGc (newS s) := by
  intro st hst ed hed
  unfold newS at hst
  rcases List.mem_append.1 hst with h | h
  · exact H st h ed hed
  · simp at h; subst h; simp at hed
theorem EdGc.setFree : ∀ {s : List NS} (a : Nat) (l : List Int), EdGc s → EdGc (setFree s a l) := by
  intro s
  induction s with
  | nil => intro a l H; exact H
  | cons x s ih =>
    intro a l H
    have Hs : EdGc s := fun st hst => H st (List.mem_cons_of_mem _ hst)
    cases a with
    | zero =>
      intro st hst ed hed
      rcases List.mem_cons.1 hst with rfl | h
      · exact H x List.mem_cons_self ed hed
      · exact Hs st h ed hed
    | succ a =>
      intro st hst ed hed
      rcases List.mem_cons.1 hst with rfl | h
      · exact H st List.mem_cons_self ed hed
      · exact ih a l Hs st h ed hed
theorem EdGc.setEdges : ∀ {s : List NS} (a : Nat) (cs : List Int) (t : Int), GC cs → EdGc s → EdGc (setEdges s a [(cs, t)]) := by
  intro s
  induction s with
  | nil => intro a cs t h H; exact H
  | cons x s ih =>
    intro a cs t hc H
    have Hs : EdGc s := fun st hst => H st (List.mem_cons_of_mem _ hst)
    cases a with
    | zero =>
      intro st hst ed hed
      rcases List.mem_cons.1 hst with rfl | h
      · simp at hed; subst hed; exact hc
      · exact Hs st h ed hed
    | succ a =>
      intro st hst ed hed
      rcases List.mem_cons.1 hst with rfl | h
      · exact H st List.mem_cons_self ed hed
      · exact ih a cs t hc Hs st h ed hed
theorem EdGc.fr {s : List NS} (a t : Nat) (H : EdGc s) : EdGc (frS s a t) := by
  unfold frS
  split
  · exact H.setFree _ _
  · exact H
theorem EdGc.outs (b : Nat) : ∀ (l : List Nat) {s : List NS}, EdGc s → EdGc (outsP b l s) := by
  intro l
  induction l with
  | nil => intro s H; exact H
  | cons o l ih => intro s H; exact ih (H.fr o b)
theorem EdGc.tie (op : Int) (a i o b : Nat) {s : List NS} (H : EdGc s) : EdGc (tieP op a i o b s) := by
  unfold tieP tie3 tie2
  split <;> split <;> (repeat apply EdGc.fr) <;> exact H
mutual
theorem layP_gc : ∀ (p : Pat) (s : List NS), GoodP p → EdGc s → EdGc (layP p s).2.2
  | .mk op cs ks, s, h, H => by
    have hg := h.eq.2.2
    have hr := h.eq.2.1
    simp only [Pat.kids, Pat.cls] at hg hr
    rw [layP_mk]
    by_cases h2 : op = 2
    · rw [if_pos h2]
      match ks, hg with
      | [], _ => exact H
      | k :: r, hg =>
        unfold GoodL at hg
        simp only [headP]
        exact chainP_gc r _ _ _ hg.2 (layP_gc k s hg.1 H)
    · rw [if_neg h2]
      by_cases h3 : op = 3
      · rw [if_pos h3]
        exact (kidsP_gc _ ks _ _ hg H.new).new.outs _ _
      · rw [if_neg h3]
        by_cases h4 : op = 4 ∨ op = 5 ∨ op = 6
        · rw [if_pos h4]
          match ks, hg with
          | [], _ => exact (EdGc.new H.new).tie _ _ _ _ _
          | k :: r, hg =>
            unfold GoodL at hg
            simp only [firstP]
            exact (layP_gc k _ hg.1 H.new).new.tie _ _ _ _ _
        · rw [if_neg h4]
          have hl := gc_of hr
          by_cases h0 : op = 0
          · simp only [if_pos h0]; exact H.new.new.fr _ _
          · simp only [if_neg h0]
            exact H.new.new.setEdges _ _ _ hl
theorem chainP_gc : ∀ (ks : List Pat) (i o : Nat) (s : List NS), GoodL ks → EdGc s → EdGc (chainP ks i o s).2.2
  | [], i, o, s, _, H => by unfold chainP; exact H
  | k :: r, i, o, s, hg, H => by
    unfold GoodL at hg
    rw [chainP]
    exact chainP_gc r _ _ _ hg.2 ((layP_gc k s hg.1 H).fr _ _)
theorem kidsP_gc (a : Nat) : ∀ (ks : List Pat) (l : List Nat) (s : List NS), GoodL ks → EdGc s → EdGc (kidsP a ks l s).2
  | [], l, s, _, H => by unfold kidsP; exact H
  | k :: r, l, s, hg, H => by
    unfold GoodL at hg
    rw [kidsP]
    exact kidsP_gc a r _ _ hg.2 ((layP_gc k s hg.1 H).fr _ _)
end

theorem autP_ag {p : Pat} (h0 : (checkF 64 p 0).1 = 0) : AG (autP p) := by
  have hg := (check_good p h0).1
  have ok := autP_ok p
  have e : autP p = layP p [] := by unfold autP; rw [if_pos h0]
  rw [e] at ok ⊢
  have L := layP_laid [] p [] hg
  have G := layP_gc p [] hg (by intro st h; cases h)
  have at_ : ∀ st ∈ (layP p []).2.2, ∃ x, x < (layP p []).2.2.length ∧ nsA (layP p []).2.2 x = st := by
    intro st hst
    obtain ⟨x, hx⟩ := List.getElem?_of_mem hst
    exact ⟨x, (List.getElem?_eq_some_iff.1 hx).1, by unfold nsA; rw [hx]; rfl⟩
  refine ⟨L.fr.bi.2, L.fr.bo.2, fun st hst e he => ?_, fun st hst t ht => ?_, fun st hst => ?_⟩
  · obtain ⟨x, hx, rfl⟩ := at_ st hst
    have := (L.cl x (Nat.zero_le _) hx).2 e he
    exact ⟨G _ hst e he, by simpa using this⟩
  · obtain ⟨x, hx, rfl⟩ := at_ st hst
    have := (L.cl x (Nat.zero_le _) hx).1 t ht
    simpa using this
  · have := totF_le hst
    have := ok.tt
    unfold tot at this
    omega
/-- Kleene, as the two lists of ends. -/
theorem ends_eq {p : Pat} (h0 : (checkF 64 p 0).1 = 0) (cl : List Int) : pick (Tk (autP p) cl) (cl.length + 1) 0 = pick (Rk p cl) (cl.length + 1) 0 := by
  have e : autP p = layP p [] := by unfold autP; rw [if_pos h0]
  refine pick_congr _ _ fun j _ _ => ?_
  unfold Tk Rk
  rw [e]
  exact kleene cl (check_good p h0).1 0 j

theorem call33 {X : Call} (hX : ∀ h, X 33 [] h = some (.ret (.bool true) h)) (n : Nat) (h : AHeap) (K kp : K2) : cCall (evF EK X (n + 1)) 33 [] [(false, [.bool])] h K kp = K (.bool true) h := by
  rw [cCall_ret (by rw [evF_X EK X n 33 [] h (by kernel_rfl), hX])]
  simp only [asRetL_one, asTIL_one, asLK_bool]
def Yes (h : AHeap) (o : Option Ans) : Prop := ∃ h', o = some (.ret (.bool true) h') ∧ Exh h h'
theorem ev5_C1 (X : Call) (hX : ∀ h, X 33 [] h = some (.ret (.bool true) h)) (n : Nat) {h h0 : AHeap} (E0 : Exh h0 h) {N : Nat} {p : Pat} {a b c cv v : Value} {cl : List Int} {B5 B2 : Nat} {e1 : Nat} {fs : List Nat}
    (HP : PatAt N h p a b c) (hN : N ≤ h.next) (h00 : (checkF 64 p 0).1 = 0) (hcl : cl.length ≤ 60) (NC : NL h cv cl) (hcv : eqV cv cv = true)
    (g2 : h.get B2 = .cells [a, b, c] 64 none false) (l2 : B2 < h.next) (g5 : h.get B5 = .cells [v, I (autP p).1, I (autP p).2.1] 67 none false) (l5 : B5 < h.next) (A : SA h v (autP p).2.2) (hs : (autP p).2.2.length ≤ 120)
    (hn : p.wt + 2000000 ≤ n) (lf : Nat) (σ : St) (s1 : σ 1 = cv) (s2 : σ 2 = P0 B2 0) (s5 : σ 5 = P0 B5 0) (s22 : σ 22 = .bool false) :
    Yes h0 (g5_C1 (evF EK X n) lf σ h (finS EK [.tmp 4])) := by
  obtain ⟨q, rfl⟩ : ∃ q, n = q + 1000010 := ⟨n - 1000010, by omega⟩
  have ag := autP_ag h00
  obtain ⟨ad, cp, hv⟩ := A.1
  obtain ⟨ha, hb, _⟩ := HP.parts
  obtain ⟨ka, kc, hce, hk⟩ := HP.kidsSlc
  obtain ⟨ba, bc, hbe, hbl⟩ := hb.slc
  have hld : ∀ (h' : AHeap), Exh h h' → ∀ (R : Type) (f : List Value → Option R), h'.ldL B2 [.int .i64, .slc, .slc] 0 f = f [a, b, c] := fun h' E' R f =>
    load_kid ha ⟨_, _, _, hbe⟩ ⟨_, _, _, hce⟩ (by rw [cell?_keep (E'.keep _ l2), cell?_of g2]; rfl) (by rw [cell?_keep (E'.keep _ l2), cell?_of g2]; rfl) (by rw [cell?_keep (E'.keep _ l2), cell?_of g2]; rfl)
  have hg5 : ∀ h', Exh h h' → h'.get B5 = .cells [v, I (autP p).1, I (autP p).2.1] 67 none false := fun h' E' => by rw [E'.keep _ l5]; exact g5
  obtain ⟨h1, r1, E1⟩ := ev35 X (q + 1000002) A ag hs NC (by omega) (by omega)
  obtain ⟨h2, r2, E2⟩ := ev36 X (q + 1000006) (HP.ext hN E1) (by have := E1.next; omega) h00 (by omega) (NC.ext E1) hcv hcl
  have E12 := E1.trans E2
  obtain ⟨h3, w3, r3, E3, N3⟩ := ev38 X (q + 1000003) (A.ext E12) ag hs (NC.ext E12) (by omega) (by omega)
  have E13 := E12.trans E3
  obtain ⟨h4, w4, r4, E4, N4⟩ := ev39 X (q + 1000007) (HP.ext hN E13) (by have := E13.next; omega) h00 (by omega) (NC.ext E13) hcv hcl
  rw [ends_eq h00] at r1 N3
  have hlp := length_pick (Rk p cl) (cl.length + 1) 0
  have r5 := ev37 X (q + 1000009) (N3.ext E4) N4 (by omega) (by omega)
  obtain ⟨wa3, wc3, hw3, _⟩ := id N3
  obtain ⟨wa4, wc4, hw4, _⟩ := id N4
  have hws3 : ∀ f : K1, asLK .slc w3 f = f w3 := fun f => by rw [hw3]; rfl
  have hws4 : ∀ f : K1, asLK .slc w4 f = f w4 := fun f => by rw [hw4]; rfl
  have q1 := HP.eqV.1
  have beq : ∀ (x : Bool) (f : K1), cBin EK .eql 4 (.bool x) (.bool x) f = f (.bool true) := by
    intro x f; cases x <;> kernel_rfl
  rw [g5_C1]
  simp only [s22, cIf_eq, Bool.false_eq_true, if_false, s1, s2, s5, cLoadA_ptr, ld3 (hg5 h (Exh.refl h)) ⟨_, _, _, hv⟩, rety_eq, dr_ret, hld h (Exh.refl h)]
  rw [cCall_ret r1]
  simp only [asRetL_one, asTIL_one, asLK_bool, rety_eq, dr_ret]
  rw [rk_ret hcv]
  simp only [cLoadA_ptr, hld h1 E1, rety_eq]
  rw [rk_ret q1, cCall_ret r2]
  simp only [asRetL_one, asTIL_one, asLK_bool, rety_eq, dr_ret]
  rw [beq]
  simp only [rety_eq, dr_ret, gd_true, cLoadA_ptr, ld3 (hg5 h2 E12) ⟨_, _, _, hv⟩, hld h2 E12]
  rw [cCall_ret r3]
  simp only [asRetL_one, asTIL_one]
  rw [hws3]
  simp only [rety_eq, dr_ret]
  rw [rk_ret hcv]
  simp only [cLoadA_ptr, hld h3 E13, rety_eq]
  rw [rk_ret q1, cCall_ret r4]
  simp only [asRetL_one, asTIL_one]
  rw [hws4]
  simp only [rety_eq, dr_ret]
  rw [cCall_ret r5]
  simp only [asRetL_one, asTIL_one, asLK_bool, rety_eq, dr_ret, cPick_eq, if_true, gd_true]
  rw [call33 hX]
  simp only [rety_eq, dr_ret, cPick_eq, if_true, g5_C2]
  exact ⟨h4, by simp [updL_cons], (E0.trans E13).trans E4⟩
theorem ev5 (X : Call) (hX : ∀ h, X 33 [] h = some (.ret (.bool true) h)) (n : Nat) {N : Nat} {h : AHeap} {p : Pat} {a b c cv : Value} {cl : List Int} (HP : PatAt N h p a b c) (HC : IntsAt N h cv cl) (hN : N ≤ h.next) (hn : p.wt + 2000000 ≤ n) :
    Yes h (evF EK X (n + 1) 5 [.agg [a, b, c].toArray, cv] h) := by
  rw [evF_B _ _ _ _ _ _ (by kernel_rfl), g5_eq, g5]
  obtain ⟨ha, hb, _⟩ := HP.parts
  obtain ⟨ka, kc, hce, hk⟩ := HP.kidsSlc
  obtain ⟨ba, bc, hbe, hbl⟩ := hb.slc
  have E := Exh.new h (.cells [a, b, c] 64 none false)
  have HP' := HP.ext hN E
  have NC := HC.nl hN
  have gB := get_new_self h (.cells [a, b, c] 64 none false)
  have nB : h.next < (h.new (.cells [a, b, c] 64 none false)).next := by simp
  simp only [st0_zero, st0_succ, cNew_eq, Value.cells, List.toList_toArray]
  generalize h.new (.cells [a, b, c] 64 none false) = h1 at *
  obtain ⟨ca, cc, hcve, _⟩ := id NC
  have hlen : ∀ K1 : K1, cLenS cv K1 = K1 (I cl.length) := fun K1 => by rw [hcve]; rfl
  rw [hlen]
  simp only [cBin_gtr, cIf_eq, decide_eq_true_eq]
  by_cases hl : (cl.length : Int) > 60
  · obtain ⟨q, rfl⟩ : ∃ q, n = q + 1 := ⟨n - 1, by omega⟩
    rw [if_pos hl, call33 hX]
    exact ⟨h1, by simp [updL_cons], E⟩
  · rw [if_neg hl]
    have hld : ∀ (R : Type) (f : List Value → Option R), h1.ldL h.next [.int .i64, .slc, .slc] 0 f = f [a, b, c] := fun R f =>
      load_kid ha ⟨_, _, _, hbe⟩ ⟨_, _, _, hce⟩ (by rw [cell?_of gB]; rfl) (by rw [cell?_of gB]; rfl) (by rw [cell?_of gB]; rfl)
    have hN1 : N ≤ h1.next := by omega
    obtain ⟨q, rfl⟩ : ∃ q, n = q + 1 := ⟨n - 1, by omega⟩
    obtain ⟨h2, x, fs, e2, A, k1, k2⟩ := ev28 X q HP' hN1 (by omega)
    have E2 : Exh h1 h2 := ⟨k1, k2⟩
    obtain ⟨v1, hx, hv1⟩ := A.val
    have ok := autP_ok p
    simp only [cLoadA_ptr, hld]
    rw [call_aut e2 A]
    simp only [cExtract_eq, List.toList_toArray, List.getElem?_cons_zero, List.getElem?_cons_succ, ob_some, cNew_eq]
    subst hx
    rw [st3 (get_new_self _ _) hv1]
    have k3 : Exh h2 ((h2.new (.cells [.slice none 0 0, I 0, I 0] 67 none false)).set h2.next (.cells [v1, I (autP p).1, I (autP p).2.1] 67 none false)) :=
      ⟨by simp, fun i hi => by rw [AHeap.get_set_ne _ _ (by omega), get_new_lt _ hi]⟩
    have g3 : ((h2.new (.cells [.slice none 0 0, I 0, I 0] 67 none false)).set h2.next (.cells [v1, I (autP p).1, I (autP p).2.1] 67 none false)).get h2.next = .cells [v1, I (autP p).1, I (autP p).2.1] 67 none false := AHeap.get_set_same _ _ _
    have n3 : h2.next < ((h2.new (.cells [.slice none 0 0, I 0, I 0] 67 none false)).set h2.next (.cells [v1, I (autP p).1, I (autP p).2.1] 67 none false)).next := by simp
    generalize (h2.new (.cells [.slice none 0 0, I 0, I 0] 67 none false)).set h2.next (.cells [v1, I (autP p).1, I (autP p).2.1] 67 none false) = h3 at *
    have A3 := A.frame (h' := h3) k3.next (fun i hi => k3.keep i (by obtain ⟨_, _, _, _, d⟩ := A; exact (d i hi).2))
    obtain ⟨vv, hvv, hst, _, hd⟩ := A3
    have hvv' : vv = v1 := by simpa using hvv.symm
    subst hvv'
    have S3 := hst.sa (fun j hj => (hd j hj).2)
    have E13 := E2.trans k3
    rw [cCall_ret (ev30 X q _ _)]
    simp only [asRetL_one, asTIL_one, asLK_int, cBin_neq]
    by_cases h0 : (checkF 64 p 0).1 = 0
    · have ag := autP_ag h0
      obtain ⟨h4, w, e4, E4, hw⟩ := ev34 X q (a := (autP p).1) (b := (autP p).2.1) S3 ag.fl (fun st hst e he => (ag.e st hst e he).1.len) (by omega)
      simp only [h0, decide_true, Bool.not_true, gd_false, cLoadA_ptr, ld3 g3 hv1]
      rw [cCall_ret e4]
      simp only [asRetL_one, asTIL_one, asLK_bool, cPick_eq, Bool.false_eq_true, if_false]
      cases w with
      | true =>
        rw [g5_C1]
        simp only [updL_cons, updL_nil, ↓reduceIte, Nat.reduceEqDiff, cIf_eq, if_true]
        rw [call33 hX]
        exact ⟨h4, by simp [updL_cons], (E.trans E13).trans E4⟩
      | false =>
        have E14 := E13.trans E4
        exact ev5_C1 X hX (q + 1) (h0 := h) (E.trans E14) (HP'.ext hN1 E14) (by have := E14.next; omega) h0 (by omega) ((NC.ext E).ext E14) HC.eqV (by rw [E14.keep _ nB]; exact gB) (by have := E14.next; omega) (by rw [E4.keep _ n3]; exact g3) (by have := E4.next; omega) (S3.ext E4) (hw rfl) hn _ _ (by simp [updL_cons]) (by simp [updL_cons]) (by simp [updL_cons]) (by simp [updL_cons]) (e1 := 0) (fs := [])
    · simp only [h0, decide_false, Bool.not_false, gd_true, cPick_eq, if_true]
      rw [g5_C1]
      simp only [updL_cons, updL_nil, ↓reduceIte, Nat.reduceEqDiff, cIf_eq, if_true]
      rw [call33 hX]
      exact ⟨h3, by simp [updL_cons], E.trans E13⟩
end Go.Amb
end
