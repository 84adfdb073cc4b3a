/- Part of the proof by the abstract machine: no claim of its own. -/
import Derived.Test.YtnfncnchbogncaaDoorA23
import Derived.IntWalk
set_option linter.unusedSimpArgs false
set_option linter.unusedVariables false
set_option linter.unnecessarySimpa false
set_option linter.unusedSectionVars false
/- The abstract machine, part 24: the words told, where what they meet is known. -/
set_option linter.unusedVariables false
namespace Go.Amb

abbrev I (n : Int) : Value := .int .i64 n
abbrev P0 (i o : Nat) : Value := .pointer (some ⟨i, o, none⟩)
abbrev S0 (i o l c : Nat) : Value := .slice (some ⟨i, o, none⟩) l c
abbrev nilS : Value := .slice none 0 0

section
variable {E : Env} {call : Call} {lf : Nat} {σ : St} {h : AHeap} {K1 : K1} {K : K2}

/-! What is still to come is left alone till it comes. -/
@[congr] theorem ob_congr {α β : Type} {x y : Option α} {f : α → Option β} (e : x = y) : ob x f = ob y f := by rw [e]
@[congr] theorem cLoad1_congr {k : LK} {x y : Value} {f : Amb.K1} (e : x = y) : cLoad1 k x h f = cLoad1 k y h f := by rw [e]
@[congr] theorem cLoadA_congr {k : List LK} {x y : Value} {f : Amb.K1} (e : x = y) : cLoadA k x h f = cLoadA k y h f := by rw [e]
@[congr] theorem cStore_congr {n : Nat} {x y u v : Value} {f : AHeap → Option Ans} (e : x = y) (e2 : u = v) : cStore n x u h f = cStore n y v h f := by rw [e, e2]
@[congr] theorem cNew_congr {l l' : List Value} {t : TypeId} {f : K2} (e : l = l') : cNew l t h f = cNew l' t h f := by rw [e]
@[congr] theorem cFieldAddr_congr {n : Nat} {x y : Value} {f : Amb.K1} (e : x = y) : cFieldAddr n x f = cFieldAddr n y f := by rw [e]
@[congr] theorem cField1_congr {n : Nat} {x y : Value} {f : Amb.K1} (e : x = y) : cField1 n x f = cField1 n y f := by rw [e]
@[congr] theorem cFieldA_congr {n m : Nat} {x y : Value} {f : Amb.K1} (e : x = y) : cFieldA n m x f = cFieldA n m y f := by rw [e]
@[congr] theorem cIdxS_congr {n : Nat} {x y u v : Value} {f : Amb.K1} (e : x = y) (e2 : u = v) : cIdxS n x u f = cIdxS n y v f := by rw [e, e2]
@[congr] theorem cIdxA_congr {n m : Nat} {x y u v : Value} {f : Amb.K1} (e : x = y) (e2 : u = v) : cIdxA n m x u f = cIdxA n m y v f := by rw [e, e2]
@[congr] theorem cIdxStr_congr {x y u v : Value} {f : Amb.K1} (e : x = y) (e2 : u = v) : cIdxStr x u f = cIdxStr y v f := by rw [e, e2]
@[congr] theorem cLenS_congr {x y : Value} {f : Amb.K1} (e : x = y) : cLenS x f = cLenS y f := by rw [e]
@[congr] theorem cLenStr_congr {x y : Value} {f : Amb.K1} (e : x = y) : cLenStr x f = cLenStr y f := by rw [e]
@[congr] theorem cMin_congr {x y u v : Value} {f : Amb.K1} (e : x = y) (e2 : u = v) : cMin x u f = cMin y v f := by rw [e, e2]
@[congr] theorem cMax_congr {x y u v : Value} {f : Amb.K1} (e : x = y) (e2 : u = v) : cMax x u f = cMax y v f := by rw [e, e2]
@[congr] theorem cAppend_congr {e0 sz b : Nat} {x y u v : Value} {f : K2} (e : x = y) (e2 : u = v) : cAppend e0 sz b x u h f = cAppend e0 sz b y v h f := by rw [e, e2]
@[congr] theorem cBuild_congr {ps ps' : List (Nat × Nat × Value)} {zs : List Value} {f : Amb.K1} (e : ps = ps') : cBuild ps zs f = cBuild ps' zs f := by rw [e]
@[congr] theorem cBuildS_congr {e0 n : Nat} {ps ps' : List (Nat × Nat × Value)} {zs : List Value} {f : K2} (e : ps = ps') : cBuildS e0 n ps zs h f = cBuildS e0 n ps' zs h f := by rw [e]
@[congr] theorem cMakeS_congr {e0 b : Nat} {zs : List Value} {x y u v : Value} {f : K2} (e : x = y) (e2 : u = v) : cMakeS e0 zs b x u h f = cMakeS e0 zs b y v h f := by rw [e, e2]
@[congr] theorem cSliceS_congr {sz : Nat} {x y : Value} {a b c a' b' c' : Option Value} {f : Amb.K1} (e : x = y) (ea : a = a') (eb : b = b') (ec : c = c') : cSliceS sz x a b c h f = cSliceS sz y a' b' c' h f := by rw [e, ea, eb, ec]
@[congr] theorem cSliceStr_congr {x y : Value} {a b a' b' : Option Value} {f : Amb.K1} (e : x = y) (ea : a = a') (eb : b = b') : cSliceStr x a b f = cSliceStr y a' b' f := by rw [e, ea, eb]
@[congr] theorem cNilCheck_congr {x y : Value} {f : Amb.K1} (e : x = y) : cNilCheck x f = cNilCheck y f := by rw [e]
@[congr] theorem cBin_congr {op : BinOp} {t : TypeId} {x y u v : Value} {f : Amb.K1} (e : x = y) (e2 : u = v) : cBin E op t x u f = cBin E op t y v f := by rw [e, e2]
@[congr] theorem cUn_congr {op : UnOp} {x y : Value} {f : Amb.K1} (e : x = y) : cUn op x f = cUn op y f := by rw [e]
@[congr] theorem cPick_congr {c c' x y u v : Value} {f : Amb.K1} (e : c = c') : cPick c x u f = cPick c' x u f := by rw [e]
@[congr] theorem cExtract_congr {n : Nat} {x y : Value} {f : Amb.K1} (e : x = y) : cExtract x n f = cExtract y n f := by rw [e]
@[congr] theorem cIf_congr {c c' : Value} {x y : Option Ans} (e : c = c') : cIf c x y = cIf c' x y := by rw [e]
@[congr] theorem gd_congr {c c' : Value} {x y : Option Ans} {C : Array Value → Option Ans} (e : c = c') : gd c x y C = gd c' x y C := by rw [e]
@[congr] theorem cCall_congr {f : FuncId} {a a' : List Value} {ts : List (Bool × List LK)} {k kp : K2} (e : a = a') : cCall call f a ts h k kp = cCall call f a' ts h k kp := by rw [e]
@[congr] theorem cCallV_congr {f f' : Value} {a a' : List Value} {k kp : K2} (e : f = f') (e2 : a = a') : cCallV E call f a h k kp = cCallV E call f' a' h k kp := by rw [e, e2]
@[congr] theorem evCall_congr {f : FuncId} {a a' : List Value} {k kp : K2} (e2 : a = a') : evCall E call f a h k kp = evCall E call f a' h k kp := by rw [e2]
@[congr] theorem dr_congr {x y : Option Ans} {k : K2} (e : x = y) : dr x k = dr y k := by rw [e]
@[congr] theorem rk_congr {x y : Option Ans} {v v' : Value} {C : Option Ans} (e : x = y) (e2 : v = v') : rk x v C = rk y v' C := by rw [e, e2]
@[congr] theorem hk_congr {a a' : Option (List Value × TypeId)} {v v' : Value} {C : Option Ans} (e : a = a') (e2 : v = v') : hk a v h C = hk a' v' h C := by rw [e, e2]
@[congr] theorem loopS_congr {b : St → AHeap → KS → Option Ans} {n : Nat} {s : St} {k : KS} : loopS b n s h k = loopS b n s h k := rfl
@[congr] theorem asLK_congr {R : Type} {k : LK} {x y : Value} {f : Value → Option R} (e : x = y) : asLK k x f = asLK k y f := by rw [e]
@[congr] theorem ldL_congr {R : Type} {i o : Nat} {ks : List LK} {f : List Value → Option R} : h.ldL i ks o f = h.ldL i ks o f := rfl
@[congr] theorem ld1_congr {R : Type} {i o : Nat} {k : LK} {f : Value → Option R} : h.ld1 i o k f = h.ld1 i o k f := rfl
@[congr] theorem asRetL_congr {ts : List (Bool × List LK)} {x y : Value} {f : Amb.K1} (e : x = y) : asRetL ts x f = asRetL ts y f := by rw [e]
@[congr] theorem asTIL_congr {t : Bool × List LK} {x y : Value} {f : Amb.K1} (e : x = y) : asTIL t x f = asTIL t y f := by rw [e]
@[congr] theorem asLKs_congr {R : Type} {ks : List LK} {x y : List Value} {f : List Value → Option R} (e : x = y) : asLKs ks x f = asLKs ks y f := by rw [e]
@[congr] theorem asResL_congr {ts : List (Bool × List LK)} {x y : List Value} {f : List Value → Option Ans} (e : x = y) : asResL ts x f = asResL ts y f := by rw [e]
@[congr] theorem evResS_congr {s : St} {rs : List ResultVar} {f : List Value → Option Ans} : evResS E s h rs f = evResS E s h rs f := rfl
@[congr] theorem finS_congr {rs : List ResultVar} {e : XExit} {s : St} : finS E rs e s h = finS E rs e s h := rfl
def loopK (b : St → AHeap → KS → Option Ans) (n : Nat) (k : KS) : KS := fun e σ h => match e with
  | .normal => loopS b n σ h k
  | e => k e σ h
theorem loopS_succ (b : St → AHeap → KS → Option Ans) (n : Nat) (s : St) (k : KS) : loopS b (n + 1) s h k = b s h (loopK b n k) := (rfl)
@[simp] theorem loopK_normal (b : St → AHeap → KS → Option Ans) (n : Nat) (s : St) (k : KS) : loopK b n k .normal s h = loopS b n s h k := (rfl)
@[simp] theorem loopK_exit (b : St → AHeap → KS → Option Ans) (n : Nat) (s : St) (k : KS) (j : Nat) : loopK b n k (.exit j) s h = k (.exit j) s h := (rfl)
@[simp] theorem loopK_ret (b : St → AHeap → KS → Option Ans) (n : Nat) (s : St) (k : KS) : loopK b n k .ret s h = k .ret s h := (rfl)
@[simp] theorem gd_undef (x y : Option Ans) (C : Array Value → Option Ans) : gd undef x y C = C #[] := (rfl)

theorem ob_some' {α β : Type} (a : α) (f : α → Option β) : ob (some a) f = f a := (rfl)
@[simp] theorem updL_nil (s : Nat) : updL σ [] s = σ s := (rfl)
theorem updL_eq (t : Nat) (v : Value) (r : List (Nat × Value)) : updL σ ((t, v) :: r) t = v := by simp [updL, upd]
theorem updL_cons (t s : Nat) (v : Value) (r : List (Nat × Value)) : updL σ ((t, v) :: r) s = if s = t then v else updL σ r s := by
  simp only [updL, upd]
  by_cases e : s = t
  · subst e; simp
  · have : Nat.beq s t = false := by
      cases hb : Nat.beq s t with
      | false => rfl
      | true => exact absurd (Nat.eq_of_beq_eq_true hb) e
    simp [this, e]
@[simp] theorem st0_zero (v : Value) (r : List Value) : st0 (v :: r) 0 = v := (rfl)
@[simp] theorem st0_succ (v : Value) (r : List Value) (n : Nat) : st0 (v :: r) (n + 1) = st0 r n := (rfl)

@[simp] theorem ld1_eq {R : Type} (i o : Nat) (k : LK) (f : Value → Option R) : h.ld1 i o k f = ob (h.cell? i o) fun v => asLK k v f := (rfl)
@[simp] theorem asLK_int {R : Type} (n : Int) (f : Value → Option R) : asLK (.int .i64) (I n) f = f (I n) := (rfl)
@[simp] theorem asLK_bool {R : Type} (b : Bool) (f : Value → Option R) : asLK .bool (.bool b) f = f (.bool b) := (rfl)
@[simp] theorem asLK_str {R : Type} (s : ByteArray) (f : Value → Option R) : asLK .str (.string s) f = f (.string s) := (rfl)
@[simp] theorem asLK_ptr {R : Type} (a : Option Addr) (f : Value → Option R) : asLK .ptr (.pointer a) f = f (.pointer a) := (rfl)
@[simp] theorem asLK_slc {R : Type} (a : Option Addr) (l c : Nat) (f : Value → Option R) : asLK .slc (.slice a l c) f = f (.slice a l c) := (rfl)
@[simp] theorem asLK_any {R : Type} (v : Value) (f : Value → Option R) : asLK .any v f = f v := (rfl)
@[simp] theorem cLoad1_ptr (k : LK) (i o : Nat) : cLoad1 k (P0 i o) h K1 = h.ld1 i o k K1 := (rfl)
@[simp] theorem cLoadA_ptr (ks : List LK) (i o : Nat) : cLoadA ks (P0 i o) h K1 = h.ldL i ks o fun l => K1 (.agg l.toArray) := (rfl)
@[simp] theorem ldL_nil {R : Type} (i o : Nat) (f : List Value → Option R) : h.ldL i [] o f = f [] := (rfl)
@[simp] theorem ldL_cons {R : Type} (i o : Nat) (k : LK) (ks : List LK) (f : List Value → Option R) : h.ldL i (k :: ks) o f = h.ld1 i o k fun v => h.ldL i ks (o + 1) fun r => f (v :: r) := (rfl)
theorem cStore_ptr (n i o : Nat) (v : Value) (f : AHeap → Option Ans) (hv : v.cells.toList.length = n) : cStore n (P0 i o) v h f = ob (h.st i o v.cells.toList) f := by
  show (match Nat.beq v.cells.toList.length n with | true => ob (h.st i o v.cells.toList) f | false => none) = _
  rw [hv, Nat.beq_refl]
@[simp] theorem cNew_eq (cs : List Value) (t : TypeId) : cNew cs t h K = K (P0 h.next 0) (h.new (.cells cs t none false)) := (rfl)
@[simp] theorem cFieldAddr_ptr (o i x : Nat) : cFieldAddr o (P0 i x) K1 = K1 (P0 i (x + o)) := (rfl)
@[simp] theorem cField1_agg (o : Nat) (a : Array Value) : cField1 o (.agg a) K1 = ob a.toList[o]? K1 := (rfl)
@[simp] theorem cFieldA_agg (o n : Nat) (a : Array Value) : cFieldA o n (.agg a) K1 = K1 (.agg ((a.toList.drop o).take n).toArray) := (rfl)
@[simp] theorem cIdxS_slice (sz i o l c : Nat) (n : Int) : cIdxS sz (S0 i o l c) (I n) K1 = ob (idx? n l) fun q => K1 (P0 i (o + q * sz)) := (rfl)
@[simp] theorem cIdxS_nil (sz l c : Nat) (n : Int) : cIdxS sz (.slice none l c) (I n) K1 = none := (rfl)
theorem idx?_nat {q l : Nat} (h : q < l) : idx? (q : Int) l = some q := by
  unfold idx?
  have h1 : decide (0 ≤ (q : Int)) = true := by simp
  have h2 : decide ((q : Int) < (l : Int)) = true := by simp; omega
  rw [h1, h2]
  simp
@[simp] theorem cIdxStr_eq (s : ByteArray) (n : Int) : cIdxStr (.string s) (I n) K1 = ob (idx? n s.size) fun q => ob (s.data.toList[q]?) fun b => K1 (.int .u8 b.toNat) := (rfl)
@[simp] theorem cLenS_eq (a : Option Addr) (l c : Nat) : cLenS (.slice a l c) K1 = K1 (I l) := (rfl)
@[simp] theorem cLenStr_eq (s : ByteArray) : cLenStr (.string s) K1 = K1 (I s.size) := (rfl)
@[simp] theorem cBuild_nil (zs : List Value) : cBuild [] zs K1 = K1 (.agg zs.toArray) := (rfl)
@[simp] theorem cBuild_eq (ps : List (Nat × Nat × Value)) (zs : List Value) : cBuild ps zs K1 = ob (ob (fillP ps zs) fun l => some (.agg l.toArray)) K1 := (rfl)
@[simp] theorem cBuildS_eq (e n : Nat) (ps : List (Nat × Nat × Value)) (zs : List Value) : cBuildS e n ps zs h K = ob (fillP ps zs) fun l => K (S0 h.next 0 n n) (h.new (.cells l e none false)) := (rfl)
@[simp] theorem fillP_nil (cells : List Value) : fillP [] cells = some cells := (rfl)
theorem fillP_cons {o len : Nat} {v : Value} {r : List (Nat × Nat × Value)} {cells : List Value} (h1 : v.cells.toList.length = len) (h2 : o + len ≤ cells.length) :
    fillP ((o, len, v) :: r) cells = fillP r (putL cells o v.cells.toList) := by
  simp only [fillP]
  rw [h1, Nat.beq_refl, Nat.ble_eq_true_of_le h2]
  rfl
@[simp] theorem cNilCheck_ptr (i o : Nat) : cNilCheck (P0 i o) K1 = K1 (P0 i o) := (rfl)
@[simp] theorem cPick_eq (b : Bool) (x y : Value) : cPick (.bool b) x y K1 = if b = true then K1 x else K1 y := by cases b <;> rfl
@[simp] theorem cExtract_eq (a : Array Value) (i : Nat) : cExtract (.tuple a) i K1 = ob a.toList[i]? K1 := (rfl)
@[simp] theorem cIf_eq (b : Bool) (x y : Option Ans) : cIf (.bool b) x y = if b = true then x else y := by cases b <;> rfl
@[simp] theorem gd_true (x y : Option Ans) (C : Array Value → Option Ans) : gd (.bool true) x y C = x := (rfl)
@[simp] theorem gd_false (x y : Option Ans) (C : Array Value → Option Ans) : gd (.bool false) x y C = y := (rfl)
theorem gd_bool (b : Bool) (x y : Option Ans) (C : Array Value → Option Ans) : gd (.bool b) x y C = if b = true then x else y := by cases b <;> rfl
@[simp] theorem cCall_ret {f : FuncId} {args : List Value} {ts : List (Bool × List LK)} {v : Value} {h' : AHeap} {kp : K2} (e : call f args h = some (.ret v h')) : cCall call f args ts h K kp = asRetL ts v fun v' => K v' h' := by
  unfold cCall; rw [e]; rfl
@[simp] theorem cCallV_func (g : FuncId) (a c : Array Value) (args : List Value) (kp : K2) : cCallV E call (.func (.func g) a c) args h K kp = evCall E call g (a.toList ++ args ++ c.toList) h K kp := (rfl)
@[simp] theorem asRetL_unit (f : Value → Option Ans) : asRetL [] (.tuple #[]) f = f (.tuple #[]) := (rfl)
@[simp] theorem asRetL_one (t : Bool × List LK) (v : Value) (f : Value → Option Ans) : asRetL [t] v f = asTIL t v f := (rfl)
@[simp] theorem asTIL_one (k : LK) (v : Value) (f : Value → Option Ans) : asTIL (false, [k]) v f = asLK k v f := (rfl)
@[simp] theorem asTIL_agg (ks : List LK) (a : Array Value) (f : Value → Option Ans) : asTIL (true, ks) (.agg a) f = asLKs ks a.toList fun l => f (.agg l.toArray) := (rfl)
@[simp] theorem asLKs_nil {R : Type} (f : List Value → Option R) : asLKs [] [] f = f [] := (rfl)
@[simp] theorem asLKs_cons {R : Type} (k : LK) (ks : List LK) (v : Value) (l : List Value) (f : List Value → Option R) : asLKs (k :: ks) (v :: l) f = asLK k v fun v' => asLKs ks l fun r => f (v' :: r) := (rfl)
@[simp] theorem asRetL_two (t u : Bool × List LK) (r : List (Bool × List LK)) (a : Array Value) (f : Value → Option Ans) : asRetL (t :: u :: r) (.tuple a) f = asResL (t :: u :: r) a.toList fun l => f (.tuple l.toArray) := (rfl)
@[simp] theorem asResL_nil (f : List Value → Option Ans) : asResL [] [] f = f [] := (rfl)
@[simp] theorem asResL_cons (t : Bool × List LK) (ts : List (Bool × List LK)) (v : Value) (l : List Value) (f : List Value → Option Ans) : asResL (t :: ts) (v :: l) f = asTIL t v fun v' => asResL ts l fun r => f (v' :: r) := (rfl)
@[simp] theorem dr_ret (v : Value) (h' : AHeap) : dr (some (.ret v h')) K = K v h' := (rfl)
@[simp] theorem rety_eq (v : Value) (h' : AHeap) : rety v h' = some (.ret v h') := (rfl)
theorem rk_ret {v v' : Value} {h' : AHeap} {C : Option Ans} (e : eqV v' v = true) : rk (some (.ret v' h')) v C = C := by unfold rk; simp [e]
theorem hk_eq {a : Option (List Value × TypeId)} {v : Value} {C : Option Ans} (e : hkB a v h = true) : hk a v h C = C := by unfold hk; rw [e]
@[simp] theorem finS_ret (rs : List ResultVar) : finS E rs .ret σ h = evResS E σ h rs fun l => some (.ret (retOf l) h) := (rfl)
@[simp] theorem finS_normal (rs : List ResultVar) : finS E rs .normal σ h = evResS E σ h rs fun l => some (.ret (retOf l) h) := (rfl)
@[simp] theorem evResS_nil (f : List Value → Option Ans) : evResS E σ h [] f = f [] := (rfl)
@[simp] theorem evResS_tmp (t : Tmp) (r : List ResultVar) (f : List Value → Option Ans) : evResS E σ h (.tmp t :: r) f = evResS E σ h r fun l => f (σ t :: l) := (rfl)
@[simp] theorem retOf_one (v : Value) : retOf [v] = v := (rfl)
@[simp] theorem retOf_nil : retOf [] = .tuple #[] := (rfl)
@[simp] theorem retOf_two (v u : Value) (r : List Value) : retOf (v :: u :: r) = .tuple (v :: u :: r).toArray := (rfl)

/-! Numbers. -/
theorem cBin_add (t : TypeId) (a b : Int) (h1 : -9223372036854775808 ≤ a + b) (h2 : a + b ≤ 9223372036854775807) : cBin E .add t (I a) (I b) K1 = K1 (I (a + b)) := by
  show K1 (.int .i64 (IntKind.i64.wrap (a + b))) = _
  rw [Go.IntWalk.i64_in _ ⟨h1, h2⟩]
theorem cBin_sub (t : TypeId) (a b : Int) (h1 : -9223372036854775808 ≤ a - b) (h2 : a - b ≤ 9223372036854775807) : cBin E .sub t (I a) (I b) K1 = K1 (I (a - b)) := by
  show K1 (.int .i64 (IntKind.i64.wrap (a - b))) = _
  rw [Go.IntWalk.i64_in _ ⟨h1, h2⟩]
@[simp] theorem cBin_eql (t : TypeId) (a b : Int) : cBin E .eql t (I a) (I b) K1 = K1 (.bool (decide (a = b))) := by
  show K1 (.bool (a == b)) = _
  rfl
@[simp] theorem cBin_neq (t : TypeId) (a b : Int) : cBin E .neq t (I a) (I b) K1 = K1 (.bool (!decide (a = b))) := by
  show K1 (.bool (a != b)) = _
  rfl
@[simp] theorem cBin_lss (t : TypeId) (a b : Int) : cBin E .lss t (I a) (I b) K1 = K1 (.bool (decide (a < b))) := (rfl)
@[simp] theorem cBin_leq (t : TypeId) (a b : Int) : cBin E .leq t (I a) (I b) K1 = K1 (.bool (decide (a ≤ b))) := (rfl)
@[simp] theorem cBin_gtr (t : TypeId) (a b : Int) : cBin E .gtr t (I a) (I b) K1 = K1 (.bool (decide (a > b))) := (rfl)
@[simp] theorem cBin_geq (t : TypeId) (a b : Int) : cBin E .geq t (I a) (I b) K1 = K1 (.bool (decide (a ≥ b))) := (rfl)
@[simp] theorem cUn_not (b : Bool) : cUn .not (.bool b) K1 = K1 (.bool (!b)) := (rfl)

/-! The heap. -/
theorem cell?_of {i o : Nat} {vs : List Value} {e : TypeId} {opn : Option Nat} {ro : Bool} (hg : h.get i = .cells vs e opn ro) : h.cell? i o = vs[o]? := by unfold AHeap.cell?; rw [hg]
theorem st_of {i o : Nat} {vs l : List Value} {e : TypeId} {opn : Option Nat} (hg : h.get i = .cells l e opn false) (ho : o + vs.length ≤ l.length) (h1 : vs.all AHeap.one? = true) : h.st i o vs = some (h.set i (.cells (putL l o vs) e opn false)) := by
  unfold AHeap.st
  rw [hg]
  simp only [Nat.ble_eq_true_of_le ho, h1]
theorem srcOf_row {sz i o n c : Nat} {vs : List Value} {e : TypeId} {opn : Option Nat} {ro : Bool} (hg : h.get i = .cells vs e opn ro) (hn : o + n * sz ≤ vs.length) : srcOf h sz (S0 i o n c) = some (n, (vs.drop o).take (n * sz)) := by
  show ob (h.row? i o (n * sz)) _ = _
  unfold AHeap.row?
  rw [hg]
  simp only [Nat.ble_eq_true_of_le hn, ob_some]
@[simp] theorem srcOf_nil (sz l c : Nat) : srcOf h sz (.slice none l c) = some (0, []) := (rfl)
@[simp] theorem cAppend_eq (e : TypeId) (sz bys : Nat) (a : Option Addr) (l c : Nat) (x : Value) : cAppend e sz bys (.slice a l c) x h K = ob (srcOf h sz x) fun p => ob (h.app e sz bys ⟨a, l, c⟩ p.1 p.2) fun q => K (.slice q.1.a q.1.len q.1.cap) q.2 := (rfl)
theorem app_zero (e : TypeId) (sz bys : Nat) (s : SL) (vs : List Value) : h.app e sz bys s 0 vs = some (s, h) := (rfl)
theorem app_nil {e : TypeId} {sz bys n l c : Nat} {vs : List Value} (hn : n ≠ 0) (hm : (l + n) * bys ≤ AHeap.most) (hs : sz ≠ 0) (hb : bys ≠ 0) :
    h.app e sz bys ⟨none, l, c⟩ n vs = some (⟨some ⟨h.next, 0, none⟩, l + n, l + n⟩, h.new (.cells vs e (some sz) false)) := by
  unfold AHeap.app
  have b1 : Nat.beq n 0 = false := by cases n with | zero => exact absurd rfl hn | succ n => rfl
  have b2 : Nat.beq sz 0 = false := by cases sz with | zero => exact absurd rfl hs | succ n => rfl
  have b3 : Nat.beq bys 0 = false := by cases bys with | zero => exact absurd rfl hb | succ n => rfl
  simp only [b1, b2, b3, Nat.ble_eq_true_of_le hm]
/-- A slice of known room that is full. -/
theorem app_full {e e' : TypeId} {sz bys n l c i o : Nat} {vs cs : List Value} {ro : Bool} (hg : h.get i = .cells cs e' none ro) (hf : o + l * sz ≤ cs.length) (hc : c < l + n) (hn : n ≠ 0) (hm : (l + n) * bys ≤ AHeap.most) (hs : sz ≠ 0) (hb : bys ≠ 0) :
    h.app e sz bys ⟨some ⟨i, o, none⟩, l, c⟩ n vs = some (⟨some ⟨h.next, 0, none⟩, l + n, l + n⟩, h.new (.cells ((cs.drop o).take (l * sz) ++ vs) e (some sz) false)) := by
  unfold AHeap.app
  have b1 : Nat.beq n 0 = false := by cases n with | zero => exact absurd rfl hn | succ n => rfl
  have b2 : Nat.beq sz 0 = false := by cases sz with | zero => exact absurd rfl hs | succ n => rfl
  have b3 : Nat.beq bys 0 = false := by cases bys with | zero => exact absurd rfl hb | succ n => rfl
  have b4 : Nat.ble (l + n) c = false := by
    cases hq : Nat.ble (l + n) c with
    | false => rfl
    | true => have := Nat.le_of_ble_eq_true hq; omega
  simp only [b1, b2, b3, b4, Nat.ble_eq_true_of_le hm, hg, Nat.ble_eq_true_of_le hf]
/-- A slice that was grown: it moves. -/
theorem app_grown {e : TypeId} {sz bys n l i : Nat} {vs cs : List Value} (hg : h.get i = .cells cs e (some sz) false) (hf : l * sz = cs.length) (h1 : vs.all AHeap.one? = true) (hn : n ≠ 0) (hm : (l + n) * bys ≤ AHeap.most) (hs : sz ≠ 0) (hb : bys ≠ 0) :
    h.app e sz bys ⟨some ⟨i, 0, none⟩, l, l⟩ n vs = some (⟨some ⟨h.next, 0, none⟩, l + n, l + n⟩, (h.set i .gone).new (.cells (cs ++ vs) e (some sz) false)) := by
  unfold AHeap.app
  have b1 : Nat.beq n 0 = false := by cases n with | zero => exact absurd rfl hn | succ n => rfl
  have b2 : Nat.beq sz 0 = false := by cases sz with | zero => exact absurd rfl hs | succ n => rfl
  have b3 : Nat.beq bys 0 = false := by cases bys with | zero => exact absurd rfl hb | succ n => rfl
  have b4 : Nat.ble (l + n) l = false := by
    cases hq : Nat.ble (l + n) l with
    | false => rfl
    | true => have := Nat.le_of_ble_eq_true hq; omega
  have b5 : Nat.ble (0 + l * sz) cs.length = true := Nat.ble_eq_true_of_le (by omega)
  have b6 : Nat.beq (0 + l * sz) cs.length = true := by rw [Nat.zero_add, hf, Nat.beq_refl]
  simp only [b1, b2, b3, b4, Nat.ble_eq_true_of_le hm, hg, b5, b6, Nat.beq_refl, h1, List.drop_zero]
end
end Go.Amb
