/- Part of the proof by the abstract machine: no claim of its own. -/
import Derived.Test.YtnfncnchbogncaaDoorU6
import Derived.Test.YtnfncnchbogncaaDoorA24
set_option linter.unusedSimpArgs false
set_option linter.unusedVariables false
set_option linter.unnecessarySimpa false
set_option linter.unusedSectionVars false
section
/- Small functions of the reference: lead, Rune, Width, Decode. -/
set_option linter.unusedVariables false
set_option linter.unusedSimpArgs false
namespace Go.Amb
open Go.Proofs

abbrev U8 (n : Int) : Value := .int .u8 n
abbrev R32 (n : Int) : Value := .int .i32 n
section
variable {E : Env} {K1 : Amb.K1} {t : TypeId} {h : AHeap}
@[simp] theorem u8_lss (a b : Int) : cBin E .lss t (U8 a) (U8 b) K1 = K1 (.bool (decide (a < b))) := (rfl)
@[simp] theorem u8_geq (a b : Int) : cBin E .geq t (U8 a) (U8 b) K1 = K1 (.bool (decide (a ≥ b))) := (rfl)
@[simp] theorem u8_neq (a b : Int) : cBin E .neq t (U8 a) (U8 b) K1 = K1 (.bool (!decide (a = b))) := (rfl)
@[simp] theorem r_lss (a b : Int) : cBin E .lss t (R32 a) (R32 b) K1 = K1 (.bool (decide (a < b))) := (rfl)
@[simp] theorem r_leq (a b : Int) : cBin E .leq t (R32 a) (R32 b) K1 = K1 (.bool (decide (a ≤ b))) := (rfl)
@[simp] theorem r_gtr (a b : Int) : cBin E .gtr t (R32 a) (R32 b) K1 = K1 (.bool (decide (a > b))) := (rfl)
@[simp] theorem r_geq (a b : Int) : cBin E .geq t (R32 a) (R32 b) K1 = K1 (.bool (decide (a ≥ b))) := (rfl)
@[simp] theorem r_neq (a b : Int) : cBin E .neq t (R32 a) (R32 b) K1 = K1 (.bool (!decide (a = b))) := (rfl)
@[simp] theorem r_eql (a b : Int) : cBin E .eql t (R32 a) (R32 b) K1 = K1 (.bool (decide (a = b))) := (rfl)
@[simp] theorem asLK_i32 {R : Type} (n : Int) (f : Value → Option R) : asLK (.int .i32) (R32 n) f = f (R32 n) := (rfl)
theorem mask7 : ∀ a : Fin 256, IntKind.u8.wrap (BitVec.ofInt 8 (a.val : Int) &&& BitVec.ofInt 8 7).toNat = ((a.val % 8 : Nat) : Int) := by decide +kernel
theorem mask15 : ∀ a : Fin 256, IntKind.u8.wrap (BitVec.ofInt 8 (a.val : Int) &&& BitVec.ofInt 8 15).toNat = ((a.val % 16 : Nat) : Int) := by decide +kernel
theorem mask31 : ∀ a : Fin 256, IntKind.u8.wrap (BitVec.ofInt 8 (a.val : Int) &&& BitVec.ofInt 8 31).toNat = ((a.val % 32 : Nat) : Int) := by decide +kernel
theorem mask63 : ∀ a : Fin 256, IntKind.u8.wrap (BitVec.ofInt 8 (a.val : Int) &&& BitVec.ofInt 8 63).toNat = ((a.val % 64 : Nat) : Int) := by decide +kernel
theorem mask192 : ∀ a : Fin 256, IntKind.u8.wrap (BitVec.ofInt 8 (a.val : Int) &&& BitVec.ofInt 8 192).toNat = ((a.val / 64 * 64 : Nat) : Int) := by decide +kernel
theorem u8_and7 {a : Nat} (ha : a < 256) : cBin E .and t (U8 a) (U8 7) K1 = K1 (U8 (a % 8 : Nat)) := by
  show K1 (.int .u8 (IntKind.u8.wrap (BitVec.ofInt 8 (a : Int) &&& BitVec.ofInt 8 7).toNat)) = _
  rw [mask7 ⟨a, ha⟩]
theorem u8_and15 {a : Nat} (ha : a < 256) : cBin E .and t (U8 a) (U8 15) K1 = K1 (U8 (a % 16 : Nat)) := by
  show K1 (.int .u8 (IntKind.u8.wrap (BitVec.ofInt 8 (a : Int) &&& BitVec.ofInt 8 15).toNat)) = _
  rw [mask15 ⟨a, ha⟩]
theorem u8_and31 {a : Nat} (ha : a < 256) : cBin E .and t (U8 a) (U8 31) K1 = K1 (U8 (a % 32 : Nat)) := by
  show K1 (.int .u8 (IntKind.u8.wrap (BitVec.ofInt 8 (a : Int) &&& BitVec.ofInt 8 31).toNat)) = _
  rw [mask31 ⟨a, ha⟩]
theorem u8_and63 {a : Nat} (ha : a < 256) : cBin E .and t (U8 a) (U8 63) K1 = K1 (U8 (a % 64 : Nat)) := by
  show K1 (.int .u8 (IntKind.u8.wrap (BitVec.ofInt 8 (a : Int) &&& BitVec.ofInt 8 63).toNat)) = _
  rw [mask63 ⟨a, ha⟩]
theorem u8_and192 {a : Nat} (ha : a < 256) : cBin E .and t (U8 a) (U8 192) K1 = K1 (U8 (a / 64 * 64 : Nat)) := by
  show K1 (.int .u8 (IntKind.u8.wrap (BitVec.ofInt 8 (a : Int) &&& BitVec.ofInt 8 192).toNat)) = _
  rw [mask192 ⟨a, ha⟩]
theorem i32_wrap {n : Int} (h0 : 0 ≤ n) (h1 : n < 2147483648) : IntKind.i32.wrap n = n := Go.IntWalk.i32_in _ ⟨by omega, by omega⟩
theorem r_shl6 {c : Nat} (hc : c < 16777216) : cBin E .shl t (R32 c) (.int .u64 6) K1 = K1 (R32 (c * 64 : Nat)) := by
  show K1 (.int .i32 (IntKind.i32.wrap ((c : Int) * 2 ^ (min 6 32)))) = _
  rw [i32_wrap (by simp; omega) (by simp; omega)]
  rfl
theorem r_or {c x : Nat} (hc : c < 16777216) (hx : x < 64) : cBin E .or t (R32 (c * 64 : Nat)) (R32 x) K1 = K1 (R32 (c * 64 + x : Nat)) := by
  show K1 (.int .i32 (IntKind.i32.wrap (BitVec.ofInt 32 ((c * 64 : Nat) : Int) ||| BitVec.ofInt 32 (x : Int)).toNat)) = _
  have e : (BitVec.ofInt 32 ((c * 64 : Nat) : Int) ||| BitVec.ofInt 32 (x : Int)).toNat = c * 64 + x := by
    rw [BitVec.ofInt_natCast, BitVec.ofInt_natCast, BitVec.toNat_or, BitVec.toNat_ofNat, BitVec.toNat_ofNat, Nat.mod_eq_of_lt (by omega), Nat.mod_eq_of_lt (by omega)]
    have := Nat.shiftLeft_add_eq_or_of_lt (i := 6) (b := x) (by omega) c
    rw [Nat.shiftLeft_eq] at this
    exact this.symm
  rw [e, i32_wrap (by omega) (by omega)]
theorem conv_u8 {n : Nat} (hn : n < 256) (f : K2) : opConvertR UE idR h f 5 21 (.const (U8 n)) = f (R32 n) h := by
  have : opConvertR UE idR h f 5 21 (.const (U8 n)) = f (.int .i32 (IntKind.i32.wrap n)) h := by kernel_rfl
  rw [this, i32_wrap (by omega) (by omega)]
end
end Go.Amb
end

section
/- lead, Rune, Width. -/
set_option linter.unusedVariables false
set_option linter.unusedSimpArgs false
namespace Go.Amb
open Go.Proofs

def leadN (b : Nat) : Nat × Nat :=
  if b < 128 then (1, b) else if 192 ≤ b ∧ b < 224 then (2, b % 32) else if 224 ≤ b ∧ b < 240 then (3, b % 16) else if 240 ≤ b ∧ b < 248 then (4, b % 8) else (0, 0)
def runeN (r : Nat) : Bool := decide (r ≤ 1114111) && (decide (r < 55296) || decide (57343 < r))
def widthN (r : Nat) : Nat := if runeN r = false then 0 else if r < 128 then 1 else if r < 2048 then 2 else if r < 65536 then 3 else 4

theorem slot_eq {σ : St} {t : Nat} {v : Value} {r : List (Nat × Value)} : updL σ ((t, v) :: r) t = v := updL_eq t v r
theorem slot_ne {σ : St} {t s : Nat} {v : Value} {r : List (Nat × Value)} (h : s ≠ t) : updL σ ((t, v) :: r) s = updL σ r s := by rw [updL_cons, if_neg h]

theorem ev22 (X : Call) (n : Nat) {b : Nat} (hb : b < 256) (h : AHeap) : evF UE X (n + 1) 22 [U8 b] h = some (.ret (.tuple #[I (leadN b).1, R32 (leadN b).2]) h) := by
  rw [evF_B _ _ _ _ _ _ (by kernel_rfl), g22_eq, g22]
  unfold leadN
  have e3 : (0 : Int) ≤ b := by omega
  by_cases h1 : b < 128
  · have c1 : ((b : Int) < 128) := by omega
    simp only [st0_zero, u8_lss, cIf_eq, c1, decide_true, if_true, conv_u8 hb, finS_ret, evResS_tmp, evResS_nil, slot_eq, slot_ne, ne_eq, Nat.reduceEqDiff, not_false_eq_true, retOf_two, h1]
    rfl
  · have c1 : ¬ ((b : Int) < 128) := by omega
    by_cases h2 : 192 ≤ b ∧ b < 224
    · have c2 : ((b : Int) ≥ 192) := by omega
      have c3 : ((b : Int) < 224) := by omega
      simp only [st0_zero, u8_lss, u8_geq, cIf_eq, c1, c2, c3, decide_true, decide_false, Bool.false_eq_true, if_false, if_true, gd_true, gd_false, cPick_eq, g22_C1, u8_and31 hb, conv_u8 (show b % 32 < 256 by omega), finS_ret, evResS_tmp, evResS_nil, slot_eq, slot_ne, updL_nil, ne_eq, Nat.reduceEqDiff, not_false_eq_true, retOf_two, h1, h2, and_self]
      rfl
    · by_cases h3 : 224 ≤ b ∧ b < 240
      · have c2 : ((b : Int) ≥ 192) := by omega
        have c3 : ¬ ((b : Int) < 224) := by omega
        have c4 : ((b : Int) ≥ 224) := by omega
        have c5 : ((b : Int) < 240) := by omega
        simp only [st0_zero, u8_lss, u8_geq, cIf_eq, c1, c2, c3, c4, c5, decide_true, decide_false, Bool.false_eq_true, if_false, if_true, gd_true, gd_false, cPick_eq, g22_C1, g22_C2, u8_and15 hb, conv_u8 (show b % 16 < 256 by omega), finS_ret, evResS_tmp, evResS_nil, slot_eq, slot_ne, updL_nil, ne_eq, Nat.reduceEqDiff, not_false_eq_true, retOf_two, h1, h2, h3, and_self]
        rfl
      · by_cases h4 : 240 ≤ b ∧ b < 248
        · have c2 : ((b : Int) ≥ 192) := by omega
          have c3 : ¬ ((b : Int) < 224) := by omega
          have c4 : ((b : Int) ≥ 224) := by omega
          have c5 : ¬ ((b : Int) < 240) := by omega
          have c6 : ((b : Int) ≥ 240) := by omega
          have c7 : ((b : Int) < 248) := by omega
          simp only [st0_zero, u8_lss, u8_geq, cIf_eq, c1, c2, c3, c4, c5, c6, c7, decide_true, decide_false, Bool.false_eq_true, if_false, if_true, gd_true, gd_false, cPick_eq, g22_C1, g22_C2, g22_C3, u8_and7 hb, conv_u8 (show b % 8 < 256 by omega), finS_ret, evResS_tmp, evResS_nil, slot_eq, slot_ne, updL_nil, ne_eq, Nat.reduceEqDiff, not_false_eq_true, retOf_two, h1, h2, h3, h4, and_self]
          rfl
        · rw [if_neg h1, if_neg h2, if_neg h3, if_neg h4]
          by_cases c2 : ((b : Int) ≥ 192)
          · have c3 : ¬ ((b : Int) < 224) := by omega
            have c4 : ((b : Int) ≥ 224) := by omega
            have c5 : ¬ ((b : Int) < 240) := by omega
            have c6 : ((b : Int) ≥ 240) := by omega
            have c7 : ¬ ((b : Int) < 248) := by omega
            simp only [st0_zero, u8_lss, u8_geq, cIf_eq, c1, c2, c3, c4, c5, c6, c7, decide_true, decide_false, Bool.false_eq_true, if_false, if_true, gd_true, gd_false, cPick_eq, g22_C1, g22_C2, g22_C3, finS_ret, evResS_tmp, evResS_nil, slot_eq, slot_ne, updL_nil, ne_eq, Nat.reduceEqDiff, not_false_eq_true, retOf_two]
            rfl
          · have c4 : ¬ ((b : Int) ≥ 224) := by omega
            have c6 : ¬ ((b : Int) ≥ 240) := by omega
            simp only [st0_zero, u8_lss, u8_geq, cIf_eq, c1, c2, c4, c6, decide_true, decide_false, Bool.false_eq_true, if_false, if_true, gd_true, gd_false, cPick_eq, g22_C1, g22_C2, g22_C3, finS_ret, evResS_tmp, evResS_nil, slot_eq, slot_ne, updL_nil, ne_eq, Nat.reduceEqDiff, not_false_eq_true, retOf_two]
            rfl

theorem ev28 (X : Call) (n : Nat) (r : Nat) (h : AHeap) : evF UE X (n + 1) 28 [R32 r] h = some (.ret (.bool (runeN r)) h) := by
  rw [evF_B _ _ _ _ _ _ (by kernel_rfl), g28_eq, g28]
  unfold runeN
  have c0 : ((r : Int) ≥ 0) := by omega
  by_cases h1 : r ≤ 1114111
  · have c1 : ((r : Int) ≤ 1114111) := by omega
    by_cases h2 : r < 55296
    · have c2 : ((r : Int) < 55296) := by omega
      simp only [st0_zero, r_geq, r_leq, r_lss, r_gtr, c0, c1, c2, decide_true, decide_false, gd_true, gd_false, cPick_eq, Bool.false_eq_true, if_true, if_false, g28_C1, finS_ret, evResS_tmp, evResS_nil, slot_eq, retOf_one, h1, h2, Bool.true_or, Bool.and_self]
    · have c2 : ¬ ((r : Int) < 55296) := by omega
      by_cases h3 : 57343 < r
      · have c3 : ((r : Int) > 57343) := by omega
        simp only [st0_zero, r_geq, r_leq, r_lss, r_gtr, c0, c1, c2, c3, decide_true, decide_false, gd_true, gd_false, cPick_eq, Bool.false_eq_true, if_true, if_false, g28_C1, finS_ret, evResS_tmp, evResS_nil, slot_eq, retOf_one, h1, h2, h3, Bool.or_true, Bool.and_self]
      · have c3 : ¬ ((r : Int) > 57343) := by omega
        simp only [st0_zero, r_geq, r_leq, r_lss, r_gtr, c0, c1, c2, c3, decide_true, decide_false, gd_true, gd_false, cPick_eq, Bool.false_eq_true, if_true, if_false, g28_C1, finS_ret, evResS_tmp, evResS_nil, slot_eq, retOf_one, h1, h2, h3, Bool.or_self, Bool.and_false]
  · have c1 : ¬ ((r : Int) ≤ 1114111) := by omega
    simp only [st0_zero, r_geq, r_leq, r_lss, r_gtr, c0, c1, decide_true, decide_false, gd_true, gd_false, gd_undef, cPick_eq, Bool.false_eq_true, if_true, if_false, g28_C1, finS_ret, evResS_tmp, evResS_nil, slot_eq, retOf_one, h1, Bool.false_and]

theorem ev23 (X : Call) (n : Nat) (r : Nat) (h : AHeap) : evF UE X (n + 2) 23 [R32 r] h = some (.ret (I (widthN r)) h) := by
  rw [evF_B _ _ _ _ _ _ (by kernel_rfl), g23_eq, g23]
  simp only [st0_zero]
  rw [cCall_ret (ev28 X n r h)]
  unfold widthN
  cases hr : runeN r with
  | false => simp only [asRetL_one, asTIL_one, asLK_bool, cUn_not, Bool.not_false, cIf_eq, if_true, finS_ret, evResS_tmp, evResS_nil, slot_eq, retOf_one]; rfl
  | true =>
    simp only [asRetL_one, asTIL_one, asLK_bool, cUn_not, Bool.not_true, cIf_eq, Bool.false_eq_true, if_false, r_lss, Bool.true_eq_false]
    have d1 : decide ((r : Int) < 128) = decide (r < 128) := decide_eq_decide.2 (by omega)
    have d2 : decide ((r : Int) < 2048) = decide (r < 2048) := decide_eq_decide.2 (by omega)
    have d3 : decide ((r : Int) < 65536) = decide (r < 65536) := decide_eq_decide.2 (by omega)
    rw [d1, d2, d3]
    simp only [decide_eq_true_eq, finS_ret, evResS_tmp, evResS_nil, slot_eq, retOf_one]
    split
    · rfl
    · split
      · rfl
      · split <;> rfl
end Go.Amb
end

section
/- The reference's Decode: what it computes. -/
set_option linter.unusedVariables false
set_option linter.unusedSimpArgs false
namespace Go.Amb
open Go.Proofs

def contR (t : ByteArray) : Nat → Nat → Nat → Option Nat
  | 0, _, c => some c
  | m + 1, i, c => if (t.get! i).toNat / 64 = 2 then contR t m (i + 1) (c * 64 + (t.get! i).toNat % 64) else none
def refDec (t : ByteArray) : Nat × Nat :=
  if (leadN (t.get! 0).toNat).1 = 0 ∨ t.size < (leadN (t.get! 0).toNat).1 then (65533, 1)
  else match contR t ((leadN (t.get! 0).toNat).1 - 1) 1 (leadN (t.get! 0).toNat).2 with
    | none => (65533, 1)
    | some c => if widthN c = (leadN (t.get! 0).toNat).1 then (c, (leadN (t.get! 0).toNat).1) else (65533, 1)

theorem byte_at {t : ByteArray} {i : Nat} (h : i < t.size) : t.data.toList[i]? = some (t.get! i) := by
  have h' : i < t.data.size := h
  rw [Array.getElem?_toList, Array.getElem?_eq_getElem h']
  congr 1
  show t.data[i] = t.data[i]!
  rw [getElem!_pos t.data i h']
theorem byte_lt (b : UInt8) : b.toNat < 256 := b.toNat_lt

theorem lp16 (call : Call) (lf : Nat) {h : AHeap} {t : ByteArray} {k : Nat} (hk : k ≤ t.size) (hk4 : k ≤ 4) (K : KS) (P : Option Ans → Prop) :
    ∀ (m i c n : Nat) (σ : St), k - i = m → i ≤ k → m < n → (c + 1) * 64 ^ m ≤ 16777216 → σ 0 = .string t → σ 4 = I k → σ 5 = R32 c → σ 6 = I i →
      ((contR t m i c = none ∧ ∀ σ : St, σ 3 = I 1 → σ 2 = R32 65533 → P (K .ret σ h)) ∨ ∃ c', contR t m i c = some c' ∧ ∀ σ : St, σ 4 = I k → σ 5 = R32 c' → P (K (.exit 0) σ h)) →
    P (loopS (g16_L2 call lf) n σ h K) := by
  intro m
  induction m with
  | zero =>
    intro i c n σ hm hi hn hc h0 h4 h5 h6 hd
    obtain ⟨n, rfl⟩ : ∃ q, n = q + 1 := ⟨n - 1, by omega⟩
    have c1 : ¬ ((i : Int) < k) := by omega
    rw [loopS_succ, g16_L2]
    simp only [h4, h6, cBin_lss, c1, decide_false, cIf_eq, Bool.false_eq_true, if_false, loopK_exit]
    rcases hd with ⟨hd, _⟩ | ⟨c', e, hd⟩
    · cases hd
    · cases e
      exact hd _ (by simp only [slot_ne, ne_eq, Nat.reduceEqDiff, not_false_eq_true, updL_nil, h4]) (by simp only [slot_ne, ne_eq, Nat.reduceEqDiff, not_false_eq_true, updL_nil, h5])
  | succ m ih =>
    intro i c n σ hm hi hn hc h0 h4 h5 h6 hd
    obtain ⟨n, rfl⟩ : ∃ q, n = q + 1 := ⟨n - 1, by omega⟩
    have c1 : ((i : Int) < k) := by omega
    have hit : i < t.size := by omega
    have hb := byte_lt (t.get! i)
    have hpow : 1 ≤ 64 ^ m := Nat.pos_of_ne_zero (by simp)
    have hc' : (c + 1) * 64 * 64 ^ m ≤ 16777216 := by rw [Nat.pow_succ] at hc; rw [Nat.mul_assoc, Nat.mul_comm 64]; exact hc
    have hcl : (c + 1) * 64 ≤ 16777216 := Nat.le_trans (Nat.le_mul_of_pos_right _ hpow) hc'
    rw [loopS_succ, g16_L2]
    simp only [h0, h4, h5, h6, cBin_lss, c1, decide_true, cIf_eq, if_true, cIdxStr_eq, idx?_nat hit, ob_some, byte_at hit, u8_and192 hb, u8_neq]
    by_cases hg : (t.get! i).toNat / 64 = 2
    · have c2 : (!decide ((((t.get! i).toNat / 64 * 64 : Nat) : Int) = 128)) = false := by rw [hg]; rfl
      simp only [c2, Bool.false_eq_true, if_false, r_shl6 (show c < 16777216 by omega), u8_and63 hb, conv_u8 (show (t.get! i).toNat % 64 < 256 by omega), r_or (show c < 16777216 by omega) (show (t.get! i).toNat % 64 < 64 by omega)]
      rw [cBin_add _ _ _ (by omega) (by omega), loopK_normal]
      simp only [contR, hg, if_true] at hd
      refine ih (i + 1) (c * 64 + (t.get! i).toNat % 64) n _ (by omega) (by omega) (by omega) ?_ ?_ ?_ ?_ ?_ hd
      · refine Nat.le_trans (Nat.mul_le_mul_right _ ?_) hc'
        omega
      · simp only [slot_ne, ne_eq, Nat.reduceEqDiff, not_false_eq_true, updL_nil, h0]
      · simp only [slot_ne, ne_eq, Nat.reduceEqDiff, not_false_eq_true, updL_nil, h4]
      · simp only [slot_eq, slot_ne, ne_eq, Nat.reduceEqDiff, not_false_eq_true]
      · simp only [slot_eq]
        rfl
    · have c2 : (!decide ((((t.get! i).toNat / 64 * 64 : Nat) : Int) = 128)) = true := by
        have : ¬ ((((t.get! i).toNat / 64 * 64 : Nat) : Int) = 128) := by omega
        simp only [this, decide_false, Bool.not_false]
      simp only [c2, if_true, loopK_ret]
      simp only [contR, hg, if_false] at hd
      rcases hd with ⟨_, hfail⟩ | ⟨c', e, _⟩
      · exact hfail _ (by simp only [slot_eq]) (by simp only [slot_eq, slot_ne, ne_eq, Nat.reduceEqDiff, not_false_eq_true])
      · cases e

theorem ev16 (X : Call) (n : Nat) {t : ByteArray} (ht : 0 < t.size) (hs : t.size < 4611686018427387904) (h : AHeap) : evF UE X (n + 8) 16 [.string t] h = some (.ret (.tuple #[R32 (refDec t).1, I (refDec t).2]) h) := by
  rw [evF_B _ _ _ _ _ _ (by kernel_rfl), g16_eq, g16]
  have c0 : ¬ ((t.size : Int) = 0) := by omega
  have hb := byte_lt (t.get! 0)
  simp only [st0_zero, cLenStr_eq, cBin_eql, c0, decide_false, cIf_eq, Bool.false_eq_true, if_false, cIdxStr_eq, show idx? (0 : Int) t.size = some 0 from idx?_nat (q := 0) ht, ob_some, byte_at ht]
  rw [cCall_ret (ev22 X (n + 6) hb h)]
  unfold refDec
  generalize hkd : (leadN (t.get! 0).toNat).1 = k
  generalize hcd : (leadN (t.get! 0).toNat).2 = c
  have hkc : k = 0 ∨ (k = 1 ∧ c < 128) ∨ (k = 2 ∧ c < 32) ∨ (k = 3 ∧ c < 16) ∨ (k = 4 ∧ c < 8) := by
    rw [← hkd, ← hcd]
    unfold leadN
    split
    · right; left; exact ⟨rfl, by assumption⟩
    · split
      · right; right; left; exact ⟨rfl, Nat.mod_lt _ (by decide)⟩
      · split
        · right; right; right; left; exact ⟨rfl, Nat.mod_lt _ (by decide)⟩
        · split
          · right; right; right; right; exact ⟨rfl, Nat.mod_lt _ (by decide)⟩
          · left; rfl
  simp only [asRetL_two, asResL_cons, asResL_nil, asTIL_one, asLK_int, asLK_i32, cExtract_eq, List.getElem?_toArray, List.getElem?_cons_zero, List.getElem?_cons_succ, ob_some, cBin_eql, cBin_gtr, gd_bool, cPick_eq]
  by_cases hk0 : k = 0
  · have c1 : ((k : Int) = 0) := by omega
    simp only [c1, decide_true, if_true, g16_C1, slot_eq, cIf_eq, finS_ret, evResS_tmp, evResS_nil, slot_ne, ne_eq, Nat.reduceEqDiff, not_false_eq_true, retOf_two, hk0, true_or]
    rfl
  · have c1 : ¬ ((k : Int) = 0) := by omega
    simp only [c1, decide_false, Bool.false_eq_true, if_false, g16_C1, slot_eq, cIf_eq, hk0, false_or]
    by_cases hk1 : t.size < k
    · have c2 : ((k : Int) > t.size) := by omega
      simp only [c2, decide_true, if_true, finS_ret, evResS_tmp, evResS_nil, slot_eq, slot_ne, ne_eq, Nat.reduceEqDiff, not_false_eq_true, retOf_two, hk1]
      rfl
    · have c2 : ¬ ((k : Int) > t.size) := by omega
      simp only [c2, decide_false, Bool.false_eq_true, if_false, hk1]
      have hcb : (c + 1) * 64 ^ (k - 1) ≤ 16777216 := by
        rcases hkc with rfl | ⟨rfl, hc⟩ | ⟨rfl, hc⟩ | ⟨rfl, hc⟩ | ⟨rfl, hc⟩
        · omega
        · simp only [Nat.sub_self, Nat.pow_zero, Nat.mul_one]; omega
        · simp only [Nat.reduceSub, Nat.reducePow]; omega
        · simp only [Nat.reduceSub, Nat.reducePow]; omega
        · simp only [Nat.reduceSub, Nat.reducePow]; omega
      cases hcon : contR t (k - 1) 1 c with
      | none =>
        refine lp16 (evF UE X (n + 7)) (n + 7) (k := k) (t := t) (by omega) (by omega) _ (fun x => x = some (.ret (.tuple #[R32 65533, I 1]) h)) (k - 1) 1 c (n + 7) _ (by omega) (by omega) (by omega) hcb ?_ ?_ ?_ ?_ (.inl ⟨hcon, fun σ e3 e2 => ?_⟩)
        · simp only [slot_ne, slot_eq, ne_eq, Nat.reduceEqDiff, not_false_eq_true, updL_nil, st0_zero]
        · simp only [slot_ne, slot_eq, ne_eq, Nat.reduceEqDiff, not_false_eq_true, updL_nil]
        · simp only [slot_ne, slot_eq, ne_eq, Nat.reduceEqDiff, not_false_eq_true, updL_nil]
        · simp only [slot_eq]; rfl
        · simp only [hBlk_ret, hSeq_ret, finS_ret, evResS_tmp, evResS_nil, e2, e3, retOf_two]
      | some c' =>
        refine lp16 (evF UE X (n + 7)) (n + 7) (k := k) (t := t) (by omega) (by omega) _ (fun x => x = _) (k - 1) 1 c (n + 7) _ (by omega) (by omega) (by omega) hcb ?_ ?_ ?_ ?_ (.inr ⟨c', hcon, fun σ e4 e5 => ?_⟩)
        · simp only [slot_ne, slot_eq, ne_eq, Nat.reduceEqDiff, not_false_eq_true, updL_nil, st0_zero]
        · simp only [slot_ne, slot_eq, ne_eq, Nat.reduceEqDiff, not_false_eq_true, updL_nil]
        · simp only [slot_ne, slot_eq, ne_eq, Nat.reduceEqDiff, not_false_eq_true, updL_nil]
        · simp only [slot_eq]; rfl
        · simp only [hBlk_same, hSeq_normal, g16_C3, e4, e5]
          rw [cCall_ret (ev23 X (n + 5) c' h)]
          simp only [asRetL_one, asTIL_one, asLK_int, cBin_neq, cIf_eq]
          by_cases hw : widthN c' = k
          · have d : (!decide ((widthN c' : Int) = k)) = false := by simp [hw]
            simp only [d, Bool.false_eq_true, if_false, finS_ret, evResS_tmp, evResS_nil, slot_eq, slot_ne, ne_eq, Nat.reduceEqDiff, not_false_eq_true, retOf_two, hw, if_true, e4, e5, decide_true, Bool.not_true]
          · have d : (!decide ((widthN c' : Int) = k)) = true := by
              have : ¬ ((widthN c' : Int) = k) := by omega
              simp only [this, decide_false, Bool.not_false]
            simp only [d, if_true, finS_ret, evResS_tmp, evResS_nil, slot_eq, slot_ne, ne_eq, Nat.reduceEqDiff, not_false_eq_true, retOf_two, hw, if_false]
            rfl
end Go.Amb
end

section
/- The reference's Decode is the model's. -/
set_option linter.unusedVariables false
set_option maxRecDepth 100000
set_option linter.unusedSimpArgs false
namespace Go.Amb

theorem valid_rune (c : Nat) : Utf8.valid c = runeN c := by
  unfold Utf8.valid runeN
  rw [Bool.eq_iff_iff]
  simp
  omega
theorem widthN_eq (c : Nat) : widthN c = if Utf8.valid c = false then 0 else if c < 128 then 1 else if c < 2048 then 2 else if c < 65536 then 3 else 4 := by rw [valid_rune]; rfl
theorem valid_low {c : Nat} (h : c < 2048) : Utf8.valid c = true := by
  rw [valid_rune]
  unfold runeN
  simp
  omega

theorem refDec_eq {t : ByteArray} (ht : 0 < t.size) : refDec t = Utf8.decode t 0 := by
  unfold refDec Utf8.decode
  simp only [Nat.zero_add]
  have hb0 := byte_lt (t.get! 0)
  have hb1 := byte_lt (t.get! 1)
  have hb2 := byte_lt (t.get! 2)
  have hb3 := byte_lt (t.get! 3)
  obtain ⟨b0, hc0⟩ : ∃ b0, (t.get! 0).toNat = b0 := ⟨_, rfl⟩
  simp only [hc0] at hb0 ⊢
  have hr : Utf8.runeError = 65533 := rfl
  unfold leadN
  by_cases h1 : b0 < 128
  · have hw : widthN b0 = 1 := by rw [widthN_eq, valid_low (by omega)]; simp [h1]
    simp only [h1, if_true, Nat.sub_self, contR, hw]
    rw [if_neg (by omega)]
  · have n1 : ¬ b0 < 0x80 := by omega
    simp only [h1, n1, if_false]
    by_cases h2 : 192 ≤ b0 ∧ b0 < 224
    · have e : (b0 / 32 == 6) = true := by simp; omega
      have e3 : (b0 / 16 == 14) = false := by simp; omega
      have e4 : (b0 / 8 == 30) = false := by simp; omega
      simp only [h2, and_self, if_true, e, e3, e4, Bool.true_and, Bool.false_and, Bool.false_eq_true, if_false]
      by_cases hs : 1 < t.size
      · simp only [show ¬ t.size < 2 by omega, or_false, show ¬ (2 = 0) by omega, if_false, show 2 - 1 = 1 from rfl, contR, hs, decide_true, Bool.true_and]
        by_cases g1 : (t.get! 1).toNat / 64 = 2
        · simp only [g1, if_true, beq_self_eq_true]
          generalize hcc : b0 % 32 * 64 + (t.get! 1).toNat % 64 = c
          have hlt : c < 2048 := by omega
          rw [widthN_eq, valid_low hlt]
          by_cases g : c ≥ 128
          · simp [g, hlt, show ¬ c < 128 by omega]
          · simp [show ¬ (c ≥ 128) by omega, show c < 128 by omega, hr]
        · simp [g1, hr]
      · simp [show t.size < 2 by omega, hs, hr]
    · have e : (b0 / 32 == 6) = false := by simp; omega
      simp only [h2, if_false, e, Bool.false_and, Bool.false_eq_true]
      by_cases h3 : 224 ≤ b0 ∧ b0 < 240
      · have e3 : (b0 / 16 == 14) = true := by simp; omega
        have e4 : (b0 / 8 == 30) = false := by simp; omega
        simp only [h3, and_self, if_true, e3, e4, Bool.true_and, Bool.false_and, Bool.false_eq_true, if_false]
        by_cases hs : 2 < t.size
        · simp only [show ¬ t.size < 3 by omega, or_false, show ¬ (3 = 0) by omega, if_false, show 3 - 1 = 2 from rfl, contR, hs, show 1 < t.size by omega, decide_true, Bool.true_and]
          by_cases g1 : (t.get! 1).toNat / 64 = 2
          · by_cases g2 : (t.get! 2).toNat / 64 = 2
            · simp only [g1, g2, if_true, beq_self_eq_true, Bool.and_self]
              have hcc : (b0 % 16 * 64 + (t.get! 1).toNat % 64) * 64 + (t.get! 2).toNat % 64 = b0 % 16 * 4096 + (t.get! 1).toNat % 64 * 64 + (t.get! 2).toNat % 64 := by omega
              rw [hcc]
              generalize hcd : b0 % 16 * 4096 + (t.get! 1).toNat % 64 * 64 + (t.get! 2).toNat % 64 = c
              have hlt : c < 65536 := by omega
              rw [widthN_eq]
              cases hv : Utf8.valid c with
              | false => simp [hr]
              | true =>
                by_cases g : c ≥ 2048
                · simp [g, hlt, show ¬ c < 128 by omega, show ¬ c < 2048 by omega]
                · by_cases g' : c < 128
                  · simp [g, g', hr]
                  · simp [g, g', show c < 2048 by omega, hr]
            · simp [g1, g2, hr]
          · simp [g1, hr]
        · by_cases hs1 : 1 < t.size
          · simp [show t.size < 3 by omega, hs, hr]
          · simp [show t.size < 3 by omega, hs, hr]
      · have e3 : (b0 / 16 == 14) = false := by simp; omega
        simp only [h3, if_false, e3, Bool.false_and, Bool.false_eq_true]
        by_cases h4 : 240 ≤ b0 ∧ b0 < 248
        · have e4 : (b0 / 8 == 30) = true := by simp; omega
          simp only [h4, and_self, if_true, e4, Bool.true_and]
          by_cases hs : 3 < t.size
          · simp only [show ¬ t.size < 4 by omega, or_false, show ¬ (4 = 0) by omega, if_false, show 4 - 1 = 3 from rfl, contR, hs, show 1 < t.size by omega, show 2 < t.size by omega, decide_true, Bool.true_and]
            by_cases g1 : (t.get! 1).toNat / 64 = 2
            · by_cases g2 : (t.get! 2).toNat / 64 = 2
              · by_cases g3 : (t.get! 3).toNat / 64 = 2
                · simp only [g1, g2, g3, if_true, beq_self_eq_true, Bool.and_self]
                  have hcc : ((b0 % 8 * 64 + (t.get! 1).toNat % 64) * 64 + (t.get! 2).toNat % 64) * 64 + (t.get! 3).toNat % 64 = b0 % 8 * 262144 + (t.get! 1).toNat % 64 * 4096 + (t.get! 2).toNat % 64 * 64 + (t.get! 3).toNat % 64 := by omega
                  rw [hcc]
                  generalize hcd : b0 % 8 * 262144 + (t.get! 1).toNat % 64 * 4096 + (t.get! 2).toNat % 64 * 64 + (t.get! 3).toNat % 64 = c
                  rw [widthN_eq]
                  cases hv : Utf8.valid c with
                  | false => simp [hr]
                  | true =>
                    by_cases g : c ≥ 65536
                    · simp [g, show ¬ c < 128 by omega, show ¬ c < 2048 by omega, show ¬ c < 65536 by omega]
                    · by_cases g' : c < 128
                      · simp [g, g', hr]
                      · by_cases g'' : c < 2048
                        · simp [g, g', g'', hr]
                        · simp [g, g', g'', show c < 65536 by omega, hr]
                · simp [g1, g2, g3, hr]
              · simp [g1, g2, hr]
            · simp [g1, hr]
          · simp [show t.size < 4 by omega, hs, hr]
        · have e4 : (b0 / 8 == 30) = false := by simp; omega
          simp [h4, e4, hr]
end Go.Amb
end

section
/- The reference's Marks. -/
set_option linter.unusedVariables false
set_option linter.unusedSimpArgs false
set_option maxRecDepth 100000
namespace Go.Amb
open Go.Proofs

theorem get_extract (s : ByteArray) {p : Nat} (hp : p ≤ s.size) (k : Nat) : (s.extract p s.size).get! k = s.get! (p + k) := by
  show (s.extract p s.size).data[k]! = s.data[p + k]!
  have e : (s.extract p s.size).data = s.data.extract p s.size := by simp
  rw [e]
  have hsz : s.data.size = s.size := rfl
  by_cases h : p + k < s.size
  · rw [getElem!_pos (s.data.extract p s.size) k (by simp; omega), getElem!_pos s.data (p + k) (by omega)]
    simp
  · rw [getElem!_neg (s.data.extract p s.size) k (by simp; omega), getElem!_neg s.data (p + k) (by omega)]
theorem size_extract (s : ByteArray) (p : Nat) : (s.extract p s.size).size = s.size - p := by simp
theorem decode_extract (s : ByteArray) {p : Nat} (hp : p ≤ s.size) : Utf8.decode (s.extract p s.size) 0 = Utf8.decode s p := by
  unfold Utf8.decode
  simp only [Nat.zero_add, get_extract s hp, size_extract, Nat.add_zero]
  have c : ∀ k, decide (k < s.size - p) = decide (p + k < s.size) := fun k => decide_eq_decide.2 (by omega)
  simp only [c]

/-- The runes of a text from a place on: place, width, rune. -/
inductive Mk (s : ByteArray) : Nat → List (Nat × Nat × Nat) → Prop
  | stop {p : Nat} (h : s.size ≤ p) : Mk s p []
  | cons {p : Nat} {l : List (Nat × Nat × Nat)} (h : p < s.size) (k : Mk s (p + (Utf8.decode s p).2) l) : Mk s p ((p, (Utf8.decode s p).2, (Utf8.decode s p).1) :: l)
def mcell (x : Nat × Nat × Nat) : List Value := [I x.1, I x.2.1, R32 x.2.2, .bool (decide (x.2.1 = 1) && decide (x.2.2 = 65533))]
def mcells : List (Nat × Nat × Nat) → List Value
  | [] => []
  | x :: l => mcell x ++ mcells l
theorem mcells_length : ∀ l, (mcells l).length = l.length * 4
  | [] => rfl
  | x :: l => by simp [mcells, mcell, mcells_length l]; omega
theorem mcells_append : ∀ a b, mcells (a ++ b) = mcells a ++ mcells b
  | [], b => rfl
  | x :: a, b => by simp [mcells, mcells_append a b]
theorem mcells_get {pre l : List (Nat × Nat × Nat)} {x : Nat × Nat × Nat} {j : Nat} (hj : j < 4) : (mcells (pre ++ x :: l))[pre.length * 4 + j]? = (mcell x)[j]? := by
  rw [mcells_append, List.getElem?_append_right (by rw [mcells_length]; omega), mcells_length, Nat.add_sub_cancel_left]
  exact List.getElem?_append_left (by simpa [mcell] using hj)
/-- A slice of marks. -/
def MSl (h : AHeap) (v : Value) (l : List (Nat × Nat × Nat)) (lo : Nat) : Prop :=
  (l = [] ∧ v = .slice none 0 0) ∨ ∃ B, v = S0 B 0 l.length l.length ∧ h.get B = .cells (mcells l) 29 (some 4) false ∧ lo ≤ B ∧ B < h.next
/-- What lay below stays; more has come. -/
structure Up (lo : Nat) (h h' : AHeap) : Prop where
  next : h.next ≤ h'.next
  same : ∀ i, i < lo → h'.get i = h.get i
theorem Up.refl (lo : Nat) (h : AHeap) : Up lo h h := ⟨Nat.le_refl _, fun _ _ => rfl⟩
theorem Up.trans {lo : Nat} {a b c : AHeap} (h : Up lo a b) (k : Up lo b c) : Up lo a c := ⟨Nat.le_trans h.next k.next, fun i hi => (k.same i hi).trans (h.same i hi)⟩
theorem Up.new {lo : Nat} {a b : AHeap} (h : Up lo a b) (hl : lo ≤ b.next) (o : AObj) : Up lo a (b.new o) := ⟨Nat.le_trans h.next (by simp), fun i hi => by rw [AHeap.get_new, if_neg (by omega)]; exact h.same i hi⟩
theorem Up.set {lo : Nat} {a b : AHeap} (h : Up lo a b) {k : Nat} (hl : lo ≤ k) (o : AObj) : Up lo a (b.set k o) := ⟨h.next, fun i hi => by rw [AHeap.get_set, if_neg (by omega)]; exact h.same i hi⟩

theorem build4 (a b : Int) (c : Int) (d : Bool) (f : Amb.K1) : cBuild [(0, 1, I a), (1, 1, I b), (2, 1, R32 c), (3, 1, .bool d)] [I 0, I 0, R32 0, .bool false] f = f (.agg #[I a, I b, R32 c, .bool d]) := rfl
theorem buildS1 (a b c : Int) (d : Bool) (h : AHeap) (f : K2) : cBuildS 29 1 [(0, 4, .agg #[I a, I b, R32 c, .bool d])] [I 0, I 0, R32 0, .bool false] h f = f (S0 h.next 0 1 1) (h.new (.cells [I a, I b, R32 c, .bool d] 29 none false)) := rfl
theorem addMark {h : AHeap} {v : Value} {pre : List (Nat × Nat × Nat)} {lo : Nat} (M : MSl h v pre lo) (hlo : lo ≤ h.next) (hpre : pre.length ≤ 100000) (a b c : Int) (d : Bool) :
    ∃ v' h', (∀ f : K2, cAppend 29 4 24 v (S0 h.next 0 1 1) (h.new (.cells [I a, I b, R32 c, .bool d] 29 none false)) f = f v' h') ∧ Up lo h h' ∧
      ((v' = S0 (h.next + 1) 0 (pre.length + 1) (pre.length + 1)) ∧ h'.get (h.next + 1) = .cells (mcells pre ++ [I a, I b, R32 c, .bool d]) 29 (some 4) false ∧ h'.next = h.next + 2) := by
  have hself : (h.new (.cells [I a, I b, R32 c, .bool d] 29 none false)).get h.next = .cells [I a, I b, R32 c, .bool d] 29 none false := by rw [AHeap.get_new, if_pos rfl]
  have hsrc : srcOf (h.new (.cells [I a, I b, R32 c, .bool d] 29 none false)) 4 (S0 h.next 0 1 1) = some (1, [I a, I b, R32 c, .bool d]) := by
    rw [srcOf_row hself (by simp)]; rfl
  rcases M with ⟨rfl, rfl⟩ | ⟨B, rfl, hg, hB1, hB2⟩
  · refine ⟨S0 (h.next + 1) 0 1 1, (h.new (.cells [I a, I b, R32 c, .bool d] 29 none false)).new (.cells [I a, I b, R32 c, .bool d] 29 (some 4) false), fun f => by rw [cAppend_eq, hsrc, ob_some, app_nil (Nat.one_ne_zero) (by simp [AHeap.most]) (by decide) (by decide), ob_some]; rfl, ((Up.refl lo h).new hlo _).new (by simp; omega) _, rfl, ?_, rfl⟩
    rw [AHeap.get_new, if_pos (by simp)]
    rfl
  · have hg' : (h.new (.cells [I a, I b, R32 c, .bool d] 29 none false)).get B = .cells (mcells pre) 29 (some 4) false := by rw [AHeap.get_new, if_neg (by omega)]; exact hg
    refine ⟨S0 (h.next + 1) 0 (pre.length + 1) (pre.length + 1), ((h.new (.cells [I a, I b, R32 c, .bool d] 29 none false)).set B .gone).new (.cells (mcells pre ++ [I a, I b, R32 c, .bool d]) 29 (some 4) false), fun f => by rw [cAppend_eq, hsrc, ob_some, app_grown hg' (by rw [mcells_length]) rfl (Nat.one_ne_zero) (by simp [AHeap.most]; omega) (by decide) (by decide), ob_some]; rfl, (((Up.refl lo h).new hlo _).set hB1 _).new (by simp; omega) _, rfl, ?_, rfl⟩
    rw [AHeap.get_new, if_pos (by simp)]

theorem lp6 (X : Call) (lf N : Nat) {s : ByteArray} (hs : s.size ≤ 300) {lo : Nat} (K : KS) (P : Option Ans → Prop) :
    ∀ (m p n : Nat) (σ : St) (h0 h : AHeap) (pre : List (Nat × Nat × Nat)) (v : Value), s.size - p ≤ m → m < n → pre.length ≤ p → p ≤ 600 → σ 0 = .string s → σ 4 = I p → σ 3 = v → MSl h v pre lo → Up lo h0 h → lo ≤ h0.next →
      (∀ (σ : St) (h : AHeap) (v : Value) (l : List (Nat × Nat × Nat)), Mk s p l → σ 3 = v → MSl h v (pre ++ l) lo → Up lo h0 h → P (K (.exit 0) σ h)) →
    P (loopS (g6_L1 (evF UE X (lf + 8)) N) n σ h K) := by
  intro m
  induction m with
  | zero =>
    intro p n σ h0 h pre v hm hn hp hp6 e0 e4 e3 M U hlo hk
    obtain ⟨n, rfl⟩ : ∃ q, n = q + 1 := ⟨n - 1, by omega⟩
    have c1 : ¬ ((p : Int) < s.size) := by omega
    rw [loopS_succ, g6_L1]
    simp only [e0, e4, cLenStr_eq, cBin_lss, c1, decide_false, cIf_eq, Bool.false_eq_true, if_false, loopK_exit]
    exact hk _ _ v [] (.stop (by omega)) (by simp only [slot_ne, ne_eq, Nat.reduceEqDiff, not_false_eq_true, updL_nil, e3]) (by simpa using M) U
  | succ m ih =>
    intro p n σ h0 h pre v hm hn hp hp6 e0 e4 e3 M U hlo hk
    obtain ⟨n, rfl⟩ : ∃ q, n = q + 1 := ⟨n - 1, by omega⟩
    by_cases hps : p < s.size
    · have c1 : ((p : Int) < s.size) := by omega
      rw [loopS_succ, g6_L1]
      simp only [e0, e4, cLenStr_eq, cBin_lss, c1, decide_true, cIf_eq, if_true]
      have hsl : ∀ f : Amb.K1, cSliceStr (.string s) (some (I p)) none f = f (.string (s.extract p s.size)) := fun f => by
        have hb : bnd? (p : Int) s.size = some p := by
          unfold bnd?
          have a1 : decide (0 ≤ (p : Int)) = true := by simp
          have a2 : decide ((p : Int) ≤ (s.size : Int)) = true := by simp; omega
          rw [a1, a2]; simp
        unfold cSliceStr
        simp only [slcB, ob_some, num?, hb]
      rw [hsl]
      have hd := ev16 X lf (t := s.extract p s.size) (by rw [size_extract]; omega) (by rw [size_extract]; omega) h
      rw [refDec_eq (by rw [size_extract]; omega), decode_extract s (by omega)] at hd
      rw [cCall_ret hd]
      generalize hw : (Utf8.decode s p).2 = w
      generalize hr : (Utf8.decode s p).1 = r
      have hw1 : 1 ≤ w := by rw [← hw]; exact width_pos1 s p
      have hw4 : w ≤ 4 := by
        rw [← hw]; unfold Utf8.decode; simp only
        repeat' split
        all_goals simp
      simp only [asRetL_two, asResL_cons, asResL_nil, asTIL_one, asLK_int, asLK_i32, cExtract_eq, List.getElem?_toArray, List.getElem?_cons_zero, List.getElem?_cons_succ, ob_some, cBin_eql, r_eql, gd_bool, cPick_eq]
      obtain ⟨v', h', hall, U', hv', hg', hn'⟩ := addMark (M) (Nat.le_trans hlo U.next) (by omega) p w r (decide (w = 1) && decide (r = 65533))
      have hM' : MSl h' v' (pre ++ [(p, w, r)]) lo := .inr ⟨h.next + 1, by rw [hv']; simp, by rw [hg', mcells_append]; rfl, by have := U.next; omega, by omega⟩
      have step : ∀ σ : St, σ 0 = .string s → σ 3 = v' → σ 4 = I p → σ 6 = I w → P (g6_C2 (evF UE X (lf + 8)) N σ h' (loopK (g6_L1 (evF UE X (lf + 8)) N) n K)) := by
        intro σ f0 f3 f4 f6
        rw [g6_C2]
        simp only [f4, f6]
        rw [cBin_add _ _ _ (by omega) (by omega), loopK_normal]
        refine ih (p + w) n _ h0 h' (pre ++ [(p, w, r)]) v' (by omega) (by omega) (by simp; omega) (by omega) ?_ ?_ ?_ hM' (U.trans U') hlo ?_
        · simp only [slot_ne, ne_eq, Nat.reduceEqDiff, not_false_eq_true, updL_nil, f0]
        · simp only [slot_eq]; rfl
        · simp only [slot_ne, ne_eq, Nat.reduceEqDiff, not_false_eq_true, updL_nil, f3]
        · intro σ h v l mk e M U
          refine hk σ h v ((p, w, r) :: l) ?_ e (by simpa using M) U
          have := Mk.cons hps (l := l) (by rw [hw]; exact mk)
          rw [hw, hr] at this
          exact this
      by_cases q1 : w = 1
      · have d1 : decide ((w : Int) = 1) = true := by simp [q1]
        have d2 : decide ((r : Int) = 65533) = (decide (w = 1) && decide (r = 65533)) := by
          rw [q1, Bool.eq_iff_iff]; simp; omega
        simp only [d1, d2, if_true, build4, buildS1, e3, hall]
        refine step _ ?_ ?_ ?_ ?_
        · simp only [slot_ne, ne_eq, Nat.reduceEqDiff, not_false_eq_true, updL_nil, e0]
        · simp only [slot_eq]
        · simp only [slot_ne, ne_eq, Nat.reduceEqDiff, not_false_eq_true, updL_nil, e4]
        · simp only [slot_ne, slot_eq, ne_eq, Nat.reduceEqDiff, not_false_eq_true]
      · have d1 : decide ((w : Int) = 1) = false := by
          have : ¬ (w : Int) = 1 := by omega
          simp only [this, decide_false]
        have d2 : (decide (w = 1) && decide (r = 65533)) = false := by simp [q1]
        rw [d2] at hall
        simp only [d1, Bool.false_eq_true, if_false]
        simp only [build4, buildS1, e3, hall]
        refine step _ ?_ ?_ ?_ ?_
        · simp only [slot_ne, ne_eq, Nat.reduceEqDiff, not_false_eq_true, updL_nil, e0]
        · simp only [slot_eq]
        · simp only [slot_ne, ne_eq, Nat.reduceEqDiff, not_false_eq_true, updL_nil, e4]
        · simp only [slot_ne, slot_eq, ne_eq, Nat.reduceEqDiff, not_false_eq_true]
    · have c1 : ¬ ((p : Int) < s.size) := by omega
      rw [loopS_succ, g6_L1]
      simp only [e0, e4, cLenStr_eq, cBin_lss, c1, decide_false, cIf_eq, Bool.false_eq_true, if_false, loopK_exit]
      exact hk _ _ v [] (.stop (by omega)) (by simp only [slot_ne, ne_eq, Nat.reduceEqDiff, not_false_eq_true, updL_nil, e3]) (by simpa using M) U
end Go.Amb
end
