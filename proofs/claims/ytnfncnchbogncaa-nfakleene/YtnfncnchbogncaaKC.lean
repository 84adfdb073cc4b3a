/- Part of the proof by the abstract machine: no claim of its own. -/
import Derived.Test.YtnfncnchbogncaaKB
set_option linter.unusedSimpArgs false
set_option linter.unusedVariables false
set_option linter.unnecessarySimpa false
set_option linter.unusedSectionVars false
section
/- States reached without a class: the walk. -/
set_option linter.unusedVariables false
set_option linter.unusedSimpArgs false
namespace Go.Amb
open Go.Proofs

/-- A work list: what is left of a list that was grown. -/
def TD (h : AHeap) (v : Value) (l : List Int) (fp : List Nat) : Prop :=
  (l = [] ∧ v = nilS ∧ fp = []) ∨ ∃ T o cs, v = S0 T o l.length l.length ∧ h.get T = .cells cs 3 (some 1) false ∧ cs.drop o = ints l ∧ o + l.length = cs.length ∧ fp = [T]
theorem TD.frame {h h' : AHeap} {v : Value} {l : List Int} {fp : List Nat} (H : TD h v l fp) (k : ∀ i ∈ fp, h'.get i = h.get i) : TD h' v l fp := by
  rcases H with H | ⟨T, o, cs, h1, h2, h3⟩
  · exact .inl H
  · exact .inr ⟨T, o, cs, h1, by rw [k T (by rw [h3.2.2]; simp)]; exact h2, h3⟩
theorem TD.slc {h : AHeap} {v : Value} {l : List Int} {fp : List Nat} (H : TD h v l fp) : ∃ a c, v = .slice a l.length c := by
  rcases H with ⟨rfl, rfl, _⟩ | ⟨T, o, cs, rfl, _⟩ <;> exact ⟨_, _, rfl⟩
theorem TD.push {h : AHeap} {v : Value} {l : List Int} {fp : List Nat} (H : TD h v l fp) (hfp : ∀ i ∈ fp, i < h.next) (x : Int) (hb : (l.length + 1) * 8 ≤ AHeap.most) :
    ∃ a n c h', v = .slice a n c ∧ h.app 3 1 8 ⟨a, n, c⟩ 1 [I x] = some (⟨some ⟨h.next, 0, none⟩, l.length + 1, l.length + 1⟩, h') ∧ h'.next = h.next + 1 ∧
      TD h' (S0 h.next 0 (l.length + 1) (l.length + 1)) (l ++ [x]) [h.next] ∧ (∀ i, i < h.next → i ∉ fp → h'.get i = h.get i) := by
  rcases H with ⟨rfl, rfl, rfl⟩ | ⟨T, o, cs, rfl, hg, hd, hlen, rfl⟩
  · refine ⟨none, 0, 0, _, rfl, app_nil (by decide) (by simpa using hb) (by decide) (by decide), rfl, ?_, fun i hi _ => get_new_lt _ hi⟩
    exact .inr ⟨h.next, 0, [I x], rfl, get_new_self _ _, rfl, rfl, rfl⟩
  · have hF : T < h.next := hfp T (by simp)
    have happ : h.app 3 1 8 ⟨some ⟨T, o, none⟩, l.length, l.length⟩ 1 [I x] = some (⟨some ⟨h.next, 0, none⟩, l.length + 1, l.length + 1⟩, (h.set T .gone).new (.cells (ints l ++ [I x]) 3 (some 1) false)) := by
      unfold AHeap.app
      have b4 : Nat.ble (l.length + 1) l.length = false := by
        cases hq : Nat.ble (l.length + 1) l.length with
        | false => rfl
        | true => have := Nat.le_of_ble_eq_true hq; omega
      have b5 : Nat.ble (o + l.length * 1) cs.length = true := Nat.ble_eq_true_of_le (by omega)
      have b6 : Nat.beq (o + l.length * 1) cs.length = true := by rw [Nat.mul_one, hlen, Nat.beq_refl]
      have b1 : Nat.beq 1 0 = false := rfl
      have b8 : Nat.beq 8 0 = false := rfl
      have b9 : [I x].all AHeap.one? = true := rfl
      simp only [b1, b8, b4, Nat.ble_eq_true_of_le hb, hg, b5, b6, Nat.beq_refl, b9, hd]
    refine ⟨_, _, _, _, rfl, happ, rfl, ?_, fun i hi hf => ?_⟩
    · refine .inr ⟨h.next, 0, ints l ++ [I x], by simp, ?_, by simp [ints], by simp, rfl⟩
      have : (h.set T .gone).next = h.next := rfl
      rw [← this, get_new_self]
    · have hne : i ≠ T := fun e => hf (by simp [e])
      rw [get_new_lt _ (show i < (h.set T .gone).next from hi), AHeap.get_set_ne _ _ hne]
/-- How it stands while states are being found. -/
structure CSt (h0 h : AHeap) (Bi Bt M n : Nat) (x : List Bool × List Int) : Prop where
  ext : Exh h0 h
  fr : h0.next ≤ Bi ∧ h0.next ≤ Bt ∧ h0.next ≤ M ∧ Bi ≠ Bt ∧ Bi ≠ M ∧ Bt ≠ M
  lt : Bi < h.next ∧ Bt < h.next ∧ M < h.next
  gi : h.get Bi = .cells [S0 M 0 n n] 161 none false
  len : x.1.length = n
  gm : h.get M = .cells (x.1.map .bool) 4 none false
  gt : ∃ v fp, h.get Bt = .cells [v] 52 none false ∧ TD h v x.2 fp ∧ ∀ i ∈ fp, h0.next ≤ i ∧ i < h.next ∧ i ≠ Bi ∧ i ≠ Bt ∧ i ≠ M

theorem ev111 (X : Call) (n : Nat) {h0 h : AHeap} {Bi Bt M k : Nat} {x : List Bool × List Int} (C : CSt h0 h Bi Bt M k x) (hk : k ≤ 1000000) (hx : x.2.length + falses x.1 ≤ 1000000) (t : Int) :
    ∃ h', evF EK X (n + 1) 111 [I t, P0 Bi 0, P0 Bt 0] h = some (.ret (.tuple #[]) h') ∧ CSt h0 h' Bi Bt M k (addF x t) := by
  rw [evF_B _ _ _ _ _ _ (by kernel_rfl), g111_eq, g111]
  have ci : h.cell? Bi 0 = some (S0 M 0 k k) := by rw [cell?_of C.gi]; rfl
  obtain ⟨f1, f2, f3, f4, f5, f6⟩ := C.fr
  obtain ⟨l1, l2, l3⟩ := C.lt
  have hlen := C.len
  by_cases h1 : t ≥ 0
  · by_cases h2 : t < (k : Int)
    · obtain ⟨q, rfl⟩ : ∃ q : Nat, t = (q : Int) := ⟨t.toNat, by omega⟩
      have hq : q < k := by omega
      have hqx : x.1[q]? = some x.1[q] := List.getElem?_eq_getElem (by omega)
      have cm : h.cell? M q = some (.bool x.1[q]) := by rw [cell?_of C.gm, List.getElem?_map, hqx]; rfl
      simp only [st0_zero, st0_succ, cBin_geq, h1, decide_true, gd_true, cLoad1_ptr, ld1_eq, ci, ob_some, asLK_slc, cLenS_eq, cBin_lss, h2, cPick_eq, if_true, cIdxS_slice, idx?_nat hq, Nat.mul_one, Nat.zero_add, cm, asLK_bool, cUn_not]
      cases hb : x.1[q] with
      | true =>
        refine ⟨h, ?_, ?_⟩
        · rw [g111_C1]
          simp only [Bool.not_true, Bool.false_eq_true, if_false, updL_cons, updL_nil, ↓reduceIte, Nat.reduceEqDiff, cIf_eq, finS_normal, evResS_nil, retOf_nil]
        · have : addF x (q : Int) = x := by unfold addF; rw [if_neg]; simp [hqx, hb]
          rw [this]; exact C
      | false =>
        have hadd : addF x (q : Int) = (x.1.set q true, x.2 ++ [(q : Int)]) := by unfold addF; rw [if_pos]; rfl; simp [hqx, hb]
        rw [hadd]
        obtain ⟨v, fp, gt, td, hfp⟩ := C.gt
        rw [g111_C1]
        simp only [Bool.not_false, if_true, updL_cons, updL_nil, ↓reduceIte, Nat.reduceEqDiff, cIf_eq, cLoad1_ptr, ld1_eq, ci, ob_some, asLK_slc, cIdxS_slice, idx?_nat hq, Nat.mul_one, Nat.zero_add, st0_zero, st0_succ]
        have hst : h.st M q [.bool true] = some (h.set M (.cells ((x.1.set q true).map .bool) 4 none false)) := by
          rw [st_of C.gm (by simp; omega) rfl, putL_one _ _ _ (by simp; omega), List.map_set]
        rw [cStore_ptr _ _ _ _ _ (by simp [Value.cells])]
        simp only [Value.cells, List.toList_toArray, hst, ob_some]
        -- the work list
        have gk1 : ∀ i, i ≠ M → (h.set M (.cells ((x.1.set q true).map .bool) 4 none false)).get i = h.get i := fun i hi => AHeap.get_set_ne _ _ hi
        have gM1 : (h.set M (.cells ((x.1.set q true).map .bool) 4 none false)).get M = .cells ((x.1.set q true).map .bool) 4 none false := AHeap.get_set_same _ _ _
        have n1 : (h.set M (.cells ((x.1.set q true).map .bool) 4 none false)).next = h.next := rfl
        generalize h.set M (.cells ((x.1.set q true).map .bool) 4 none false) = h1 at *
        have gk2 : ∀ i, i < h.next → (h1.new (.cells [I q] 3 none false)).get i = h1.get i := fun i hi => get_new_lt _ (by omega)
        have gn2 : (h1.new (.cells [I q] 3 none false)).get h1.next = .cells [I q] 3 none false := get_new_self _ _
        have n2 : (h1.new (.cells [I q] 3 none false)).next = h.next + 1 := by simp [n1]
        have td2 : TD (h1.new (.cells [I q] 3 none false)) v x.2 fp := td.frame fun i hi => by obtain ⟨_, b, _, _, e⟩ := hfp i hi; rw [gk2 i b, gk1 i e]
        have gBt : h1.cell? Bt 0 = some v := by rw [cell?_keep (gk1 Bt f6), cell?_of gt]; rfl
        have fs := falses_set x.1 q (by rw [hqx, hb])
        obtain ⟨a, nn, c, h3, hv, happ, n3, td3, k3⟩ := td2.push (fun i hi => by obtain ⟨_, b, _⟩ := hfp i hi; omega) (q : Int) (by unfold AHeap.most; omega)
        have hsrc : srcOf (h1.new (.cells [I q] 3 none false)) 1 (S0 h1.next 0 1 1) = some (1, [I q]) := by rw [srcOf_row gn2 (Nat.le_refl 1)]; rfl
        simp only [gBt, ob_some, hv, asLK_slc, cBuildS_eq, fill1, cAppend_eq, hsrc, happ, n2]
        rw [n2] at td3 n3
        have kk : ∀ i, i < h.next → i ≠ M → i ∉ fp → h3.get i = h.get i := fun i hi hM hf => by rw [k3 i (by omega) hf, gk2 i hi, gk1 i hM]
        have hBtfp : Bt ∉ fp := fun hm => (hfp Bt hm).2.2.2.1 rfl
        have hBifp : Bi ∉ fp := fun hm => (hfp Bi hm).2.2.1 rfl
        have hMfp : M ∉ fp := fun hm => (hfp M hm).2.2.2.2 rfl
        have gt3 : h3.get Bt = .cells [v] 52 none false := by rw [kk Bt l2 f6 hBtfp]; exact gt
        have hst3 : h3.st Bt 0 [S0 (h.next + 1) 0 (x.2.length + 1) (x.2.length + 1)] = some (h3.set Bt (.cells [S0 (h.next + 1) 0 (x.2.length + 1) (x.2.length + 1)] 52 none false)) := by
          rw [st_of gt3 (by simp) rfl]; rfl
        rw [cStore_ptr _ _ _ _ _ (by simp [Value.cells])]
        simp only [Value.cells, List.toList_toArray, hst3, ob_some]
        refine ⟨h3.set Bt (.cells [S0 (h.next + 1) 0 (x.2.length + 1) (x.2.length + 1)] 52 none false), by simp only [finS_normal, evResS_nil, retOf_nil], ?_⟩
        have n4 : (h3.set Bt (.cells [S0 (h.next + 1) 0 (x.2.length + 1) (x.2.length + 1)] 52 none false)).next = h.next + 1 + 1 := n3
        have g4 : ∀ i, i ≠ Bt → (h3.set Bt (.cells [S0 (h.next + 1) 0 (x.2.length + 1) (x.2.length + 1)] 52 none false)).get i = h3.get i := fun i hi => AHeap.get_set_ne _ _ hi
        have g4t : (h3.set Bt (.cells [S0 (h.next + 1) 0 (x.2.length + 1) (x.2.length + 1)] 52 none false)).get Bt = .cells [S0 (h.next + 1) 0 (x.2.length + 1) (x.2.length + 1)] 52 none false := AHeap.get_set_same _ _ _
        generalize h3.set Bt (.cells [S0 (h.next + 1) 0 (x.2.length + 1) (x.2.length + 1)] 52 none false) = h4 at *
        refine ⟨⟨by have := C.ext.next; omega, fun i hi => ?_⟩, C.fr, ⟨by omega, by omega, by omega⟩, ?_, by simp [hlen], ?_, ⟨_, [h.next + 1], g4t, td3.frame fun i hi => g4 i (by simp at hi; omega), fun i hi => by simp at hi; have := C.ext.next; omega⟩⟩
        · have := C.ext.next
          rw [g4 i (by omega), kk i (by omega) (by omega) (fun hm => by have := (hfp i hm).1; omega)]
          exact C.ext.keep i hi
        · rw [g4 Bi f4, kk Bi l1 f5 hBifp]; exact C.gi
        · rw [g4 M (fun e => f6 e.symm), k3 M (by omega) hMfp, gk2 M l3]; exact gM1
    · refine ⟨h, ?_, ?_⟩
      · simp only [st0_zero, st0_succ, cBin_geq, h1, decide_true, gd_true, cLoad1_ptr, ld1_eq, ci, ob_some, asLK_slc, cLenS_eq, cBin_lss, h2, decide_false, cPick_eq, if_true, gd_false, Bool.false_eq_true, if_false, g111_C1, updL_cons, updL_nil, ↓reduceIte, Nat.reduceEqDiff, cIf_eq, finS_normal, evResS_nil, retOf_nil]
      · have : addF x t = x := by
          unfold addF; rw [if_neg]
          rintro ⟨_, q⟩
          have := (List.getElem?_eq_some_iff.1 q).1
          omega
        rw [this]; exact C
  · refine ⟨h, ?_, ?_⟩
    · simp only [st0_zero, st0_succ, cBin_geq, h1, decide_false, gd_false, cPick_eq, Bool.false_eq_true, if_false, g111_C1, updL_cons, updL_nil, ↓reduceIte, Nat.reduceEqDiff, cIf_eq, finS_normal, evResS_nil, retOf_nil]
    · have : addF x t = x := by unfold addF; rw [if_neg]; omega
      rw [this]; exact C

/-- A slice that lies late. -/
def Late (lo : Nat) (v : Value) : Prop := ∀ F o n c, v = .slice (some ⟨F, o, none⟩) n c → lo ≤ F
theorem Late.mono {lo lo' : Nat} {v : Value} (H : Late lo v) (h : lo' ≤ lo) : Late lo' v := fun F o n c e => Nat.le_trans h (H F o n c e)
theorem FreeRep.late {h : AHeap} {v : Value} {l : List Int} {fp : List Nat} {lo : Nat} (H : FreeRep h v l fp) (k : ∀ i ∈ fp, lo ≤ i) : Late lo v := by
  intro F o n c e
  rcases H with ⟨_, rfl, _⟩ | ⟨G, _, rfl, _, rfl⟩
  · cases e
  · have : G = F := by simpa using (show S0 G 0 l.length l.length = .slice (some ⟨F, o, none⟩) n c from e) |> fun q => by cases q; rfl
    rw [← this]; exact k G (by simp)
/-! ### members -/
theorem ev112_loop (call : Call) (lf : Nat) {h0 : AHeap} {M : Nat} {bs : List Bool} {e : TypeId} {opn : Option Nat} {ro : Bool} {cap : Nat} (hM : M < h0.next) (gm : h0.get M = .cells (bs.map .bool) e opn ro) (hl : bs.length ≤ 1000000) (K : KS) (P : Option Ans → Prop)
    (k1 : ∀ σ' h' v fp, Exh h0 h' → FreeRep h' v (memGo 0 bs) fp → (∀ i ∈ fp, h0.next ≤ i ∧ i < h'.next) → σ' 3 = v → P (K (.exit 0) σ' h')) :
    ∀ (m i n : Nat) (σ : St) (h : AHeap) (out : List Int) (v : Value) (fp : List Nat), Exh h0 h → FreeRep h v out fp → (∀ i ∈ fp, h0.next ≤ i ∧ i < h.next) → out.length ≤ i → out ++ memGo i (bs.drop i) = memGo 0 bs → bs.length - i = m → i ≤ bs.length → m < n → σ 3 = v → σ 6 = S0 M 0 bs.length cap → σ 7 = I bs.length → σ 8 = I i →
    P (loopS (g112_L1 call lf) n σ h K) := by
  intro m
  induction m with
  | zero =>
    intro i n σ h out v fp E F hfp ho hout hm hi hn h3 h6 h7 h8
    obtain ⟨n, rfl⟩ : ∃ q, n = q + 1 := ⟨n - 1, by omega⟩
    have hil : i = bs.length := by omega
    subst hil
    rw [loopS_succ, g112_L1]
    simp only [h7, h8, cBin_lss, Int.lt_irrefl, decide_false, cIf_eq, Bool.false_eq_true, if_false, loopK_exit]
    rw [List.drop_length] at hout
    simp only [memGo, List.append_nil] at hout
    subst hout
    exact k1 _ _ v fp E F hfp (by simp [updL_cons, h3])
  | succ m ih =>
    intro i n σ h out v fp E F hfp ho hout hm hi hn h3 h6 h7 h8
    obtain ⟨n, rfl⟩ : ∃ q, n = q + 1 := ⟨n - 1, by omega⟩
    have hil : i < bs.length := by omega
    have hbx : bs[i]? = some bs[i] := List.getElem?_eq_getElem hil
    rw [List.drop_eq_getElem_cons hil] at hout
    have cm : h.cell? M i = some (.bool bs[i]) := by rw [cell?_keep (E.keep M hM), cell?_of gm, List.getElem?_map, hbx]; rfl
    generalize bs[i] = b at *
    have h1' : ((i : Int) < (bs.length : Int)) := by omega
    rw [loopS_succ, g112_L1]
    simp only [h3, h6, h7, h8, cBin_lss, h1', decide_true, cIf_eq, if_true, cIdxS_slice, idx?_nat hil, ob_some, Nat.zero_add, Nat.mul_one, cLoad1_ptr, ld1_eq, cm, asLK_bool]
    cases b with
    | false =>
      simp only [Bool.false_eq_true, if_false, g112_C2, updL_cons, updL_nil, ↓reduceIte, Nat.reduceEqDiff, h8]
      rw [cBin_add _ _ _ (by omega) (by omega), loopK_normal]
      simp only [memGo, Bool.false_eq_true, if_false] at hout
      exact ih (i + 1) n _ h out v fp E F hfp (by omega) hout (by omega) (by omega) (by omega) (by simp [updL_cons, h3]) (by simp [updL_cons, h6]) (by simp [updL_cons, h7]) (by simp [updL_cons])
    | true =>
      have gn2 : (h.new (.cells [I i] 3 none false)).get h.next = .cells [I i] 3 none false := get_new_self _ _
      have n2 : (h.new (.cells [I i] 3 none false)).next = h.next + 1 := rfl
      have F2 : FreeRep (h.new (.cells [I i] 3 none false)) v out fp := F.frame fun j hj => get_new_lt _ (hfp j hj).2
      obtain ⟨a, nn, c, hh, hv, _, happ, n3, F3, k3⟩ := F2.push (fun j hj => by have := (hfp j hj).2; omega) (i : Int) (by unfold AHeap.most; omega)
      have hsrc := src1 (i : Int) gn2
      simp only [if_true, cBuildS_eq, fill1, ob_some, cAppend_eq, hv, hsrc, happ, n2, g112_C2, updL_cons, updL_nil, ↓reduceIte, Nat.reduceEqDiff, h8]
      rw [cBin_add _ _ _ (by omega) (by omega), loopK_normal]
      simp only [memGo, if_true] at hout
      rw [n2] at n3 F3
      have E1 := E.next
      refine ih (i + 1) n _ hh (out ++ [(i : Int)]) _ [h.next + 1] ⟨by omega, fun j hj => ?_⟩ F3 (fun j hj => by simp at hj; omega) (by simp; omega) (by rw [List.append_assoc]; exact hout) (by omega) (by omega) (by omega) (by simp [updL_cons]) (by simp [updL_cons, h6]) (by simp [updL_cons, h7]) (by simp [updL_cons])
      rw [k3 j (by omega) (fun hm => by have := (hfp j hm).1; omega), get_new_lt _ (by omega), E.keep j hj]
theorem ev112 (X : Call) (n : Nat) {h : AHeap} {M : Nat} {bs : List Bool} {e : TypeId} {opn : Option Nat} {ro : Bool} {cap : Nat} (hM : M < h.next) (gm : h.get M = .cells (bs.map .bool) e opn ro) (hl : bs.length ≤ 1000000) (hn : bs.length < n) :
    ∃ h' v, evF EK X (n + 1) 112 [S0 M 0 bs.length cap] h = some (.ret v h') ∧ Exh h h' ∧ NL h' v (memGo 0 bs) ∧ Late h.next v := by
  rw [evF_B _ _ _ _ _ _ (by kernel_rfl), g112_eq, g112]
  simp only [st0_zero, cLenS_eq]
  refine ev112_loop (evF EK X n) n (cap := cap) hM gm hl _ (fun o => ∃ h' v, o = some (.ret v h') ∧ Exh h h' ∧ NL h' v (memGo 0 bs) ∧ Late h.next v) (fun σ' h' v fp E F hfp h3 => ?_) bs.length 0 n _ h [] nilS [] (Exh.refl h) (.inl ⟨rfl, rfl, rfl⟩) (by simp) (by simp) (by simp) (by omega) (by omega) hn (by simp [updL_cons]) (by simp [updL_cons]) (by simp [updL_cons]) (by simp [updL_cons])
  exact ⟨h', v, by simp [g112_C3, updL_cons, h3], E, F.nl (fun i hi => (hfp i hi).2), F.late fun i hi => (hfp i hi).1⟩
end Go.Amb
end

section
/- nfa.closed. -/
set_option linter.unusedVariables false
set_option linter.unusedSimpArgs false
namespace Go.Amb
open Go.Proofs

theorem cMakeS_eq {e bys n : Nat} {zs : List Value} {h : AHeap} {K : K2} (h1 : n * bys ≤ AHeap.most) (h2 : n ≤ AHeap.most) :
    cMakeS e zs bys (I n) (I n) h K = K (S0 h.next 0 n n) (h.new (.cells (repL zs n) e none false)) := by
  unfold cMakeS
  have a1 : decide ((0 : Int) ≤ (n : Int)) = true := by simp
  have a2 : decide ((n : Int) ≤ (n : Int)) = true := by simp
  have a3 : decide ((n : Int) * (bys : Int) ≤ (AHeap.most : Int)) = true := by
    have : ((n * bys : Nat) : Int) ≤ (AHeap.most : Int) := by exact_mod_cast h1
    simpa using this
  have a4 : decide ((n : Int) ≤ (AHeap.most : Int)) = true := by
    have : (n : Int) ≤ (AHeap.most : Int) := by exact_mod_cast h2
    simpa using this
  simp only [num?, ob_some, a1, a2, a3, a4, Bool.and_self, Int.toNat_natCast]
theorem repL_false : ∀ n, repL [.bool false] n = (List.replicate n false).map .bool
  | 0 => rfl
  | n + 1 => by rw [repL, repL_false n]; simp [List.replicate_succ]

abbrev F111 (Bi Bt : Nat) : Value := .func (.func 111) #[] #[P0 Bi 0, P0 Bt 0]
theorem Added.sum_le {x y : List Bool × List Int} {ts : List Int} (A : Added x y ts) {m : Nat} (h : x.2.length + falses x.1 ≤ m) : y.2.length + falses y.1 ≤ m := by have := A.sum; omega
theorem foldl_take {l : List Int} {i : Nat} (hi : i < l.length) (x : List Bool × List Int) : (l.take (i + 1)).foldl addF x = addF ((l.take i).foldl addF x) l[i] := by
  rw [← List.take_append_getElem hi, List.foldl_append]; rfl

theorem ev73_L1 (X : Call) (q lf : Nat) {h0 : AHeap} {B Bi Bt M k : Nat} {lv : Value} {l : List Int} (H : NL h0 lv l) (ht : l.length ≤ 1000000) (hk : k ≤ 1000000) (x : List Bool × List Int) (hx : x.2.length + falses x.1 ≤ 1000000) (K : KS) (P : Option Ans → Prop)
    (k1 : ∀ σ' h', CSt h0 h' Bi Bt M k (l.foldl addF x) → σ' 2 = P0 B 0 → σ' 5 = P0 Bi 0 → σ' 6 = P0 Bt 0 → σ' 7 = F111 Bi Bt → P (K (.exit 0) σ' h')) :
    ∀ (m i n : Nat) (σ : St) (h : AHeap), CSt h0 h Bi Bt M k ((l.take i).foldl addF x) → l.length - i = m → i ≤ l.length → m < n → σ 2 = P0 B 0 → σ 5 = P0 Bi 0 → σ 6 = P0 Bt 0 → σ 7 = F111 Bi Bt → σ 18 = lv → σ 19 = I l.length → σ 20 = I i →
    P (loopS (g73_L1 (evF EK X (q + 1)) lf) n σ h K) := by
  intro m
  induction m with
  | zero =>
    intro i n σ h C hm hi hn s2 s5 s6 s7 s18 s19 s20
    obtain ⟨n, rfl⟩ : ∃ q, n = q + 1 := ⟨n - 1, by omega⟩
    have hil : i = l.length := by omega
    subst hil
    rw [loopS_succ, g73_L1]
    simp only [s19, s20, cBin_lss, Int.lt_irrefl, decide_false, cIf_eq, Bool.false_eq_true, if_false, loopK_exit]
    rw [List.take_length] at C
    exact k1 _ _ C (by simp [updL_cons, s2]) (by simp [updL_cons, s5]) (by simp [updL_cons, s6]) (by simp [updL_cons, s7])
  | succ m ih =>
    intro i n σ h C hm hi hn s2 s5 s6 s7 s18 s19 s20
    obtain ⟨n, rfl⟩ : ∃ q, n = q + 1 := ⟨n - 1, by omega⟩
    have hil : i < l.length := by omega
    obtain ⟨a, c, hlv, hkk⟩ := H.ext C.ext
    obtain ⟨F, ha, _, hc⟩ := hkk i l[i] (List.getElem?_eq_getElem hil)
    subst ha
    have h1' : ((i : Int) < (l.length : Int)) := by omega
    obtain ⟨h2, e2, C2⟩ := ev111 X q C hk ((foldl_added (l.take i) x).sum_le hx) l[i]
    rw [← foldl_take hil] at C2
    rw [loopS_succ, g73_L1]
    simp only [s7, s18, hlv, s19, s20, cBin_lss, h1', decide_true, cIf_eq, if_true, cIdxS_slice, idx?_nat hil, ob_some, Nat.zero_add, Nat.mul_one, cLoad1_ptr, ld1_eq, hc, asLK_int, cCallV_func, List.nil_append, List.cons_append, c111]
    rw [cCall_ret e2]
    simp only [asRetL_unit]
    rw [cBin_add _ _ _ (by omega) (by omega), loopK_normal]
    exact ih (i + 1) n _ h2 C2 (by omega) (by omega) (by omega) (by simp [updL_cons, s2]) (by simp [updL_cons, s5]) (by simp [updL_cons, s6]) (by simp [updL_cons, s7]) (by simp [updL_cons, s18, hlv]) (by simp [updL_cons, s19]) (by simp [updL_cons])
theorem ev73_L4 (X : Call) (q lf : Nat) {h0 : AHeap} {B Bi Bt M k : Nat} {lv : Value} {l : List Int} (H : NL h0 lv l) (ht : l.length ≤ 1000000) (hk : k ≤ 1000000) (x : List Bool × List Int) (hx : x.2.length + falses x.1 ≤ 1000000) (K : KS) (P : Option Ans → Prop)
    (k1 : ∀ σ' h', CSt h0 h' Bi Bt M k (l.foldl addF x) → σ' 2 = P0 B 0 → σ' 5 = P0 Bi 0 → σ' 6 = P0 Bt 0 → σ' 7 = F111 Bi Bt → P (K (.exit 4) σ' h')) :
    ∀ (m i n : Nat) (σ : St) (h : AHeap), CSt h0 h Bi Bt M k ((l.take i).foldl addF x) → l.length - i = m → i ≤ l.length → m < n → σ 2 = P0 B 0 → σ 5 = P0 Bi 0 → σ 6 = P0 Bt 0 → σ 7 = F111 Bi Bt → σ 41 = lv → σ 42 = I l.length → σ 43 = I i →
    P (loopS (g73_L4 (evF EK X (q + 1)) lf) n σ h K) := by
  intro m
  induction m with
  | zero =>
    intro i n σ h C hm hi hn s2 s5 s6 s7 s18 s19 s20
    obtain ⟨n, rfl⟩ : ∃ q, n = q + 1 := ⟨n - 1, by omega⟩
    have hil : i = l.length := by omega
    subst hil
    rw [loopS_succ, g73_L4]
    simp only [s19, s20, cBin_lss, Int.lt_irrefl, decide_false, cIf_eq, Bool.false_eq_true, if_false, loopK_exit]
    rw [List.take_length] at C
    exact k1 _ _ C (by simp [updL_cons, s2]) (by simp [updL_cons, s5]) (by simp [updL_cons, s6]) (by simp [updL_cons, s7])
  | succ m ih =>
    intro i n σ h C hm hi hn s2 s5 s6 s7 s18 s19 s20
    obtain ⟨n, rfl⟩ : ∃ q, n = q + 1 := ⟨n - 1, by omega⟩
    have hil : i < l.length := by omega
    obtain ⟨a, c, hlv, hkk⟩ := H.ext C.ext
    obtain ⟨F, ha, _, hc⟩ := hkk i l[i] (List.getElem?_eq_getElem hil)
    subst ha
    have h1' : ((i : Int) < (l.length : Int)) := by omega
    obtain ⟨h2, e2, C2⟩ := ev111 X q C hk ((foldl_added (l.take i) x).sum_le hx) l[i]
    rw [← foldl_take hil] at C2
    rw [loopS_succ, g73_L4]
    simp only [s7, s18, hlv, s19, s20, cBin_lss, h1', decide_true, cIf_eq, if_true, cIdxS_slice, idx?_nat hil, ob_some, Nat.zero_add, Nat.mul_one, cLoad1_ptr, ld1_eq, hc, asLK_int, cCallV_func, List.nil_append, List.cons_append, c111]
    rw [cCall_ret e2]
    simp only [asRetL_unit]
    rw [cBin_add _ _ _ (by omega) (by omega), loopK_normal]
    exact ih (i + 1) n _ h2 C2 (by omega) (by omega) (by omega) (by simp [updL_cons, s2]) (by simp [updL_cons, s5]) (by simp [updL_cons, s6]) (by simp [updL_cons, s7]) (by simp [updL_cons, s18, hlv]) (by simp [updL_cons, s19]) (by simp [updL_cons])

theorem bnd1 {n : Nat} (hn : 1 ≤ n) : bnd? 1 n = some 1 := by
  unfold bnd?
  have h1 : decide ((1 : Int) ≤ (n : Int)) = true := by simp; omega
  simp [h1]
/-- The first of the work list taken off. -/
theorem CSt.pop {h0 h : AHeap} {Bi Bt M k : Nat} {bs : List Bool} {t : Int} {r : List Int} (C : CSt h0 h Bi Bt M k (bs, t :: r)) (hl : r.length < 1000000) :
    ∃ T o h', h.cell? Bt 0 = some (S0 T o (r.length + 1) (r.length + 1)) ∧ h.cell? T o = some (I t) ∧ (∀ K : K1, cSliceS 1 (S0 T o (r.length + 1) (r.length + 1)) (some (I 1)) none none h K = K (S0 T (o + 1) r.length r.length)) ∧
      h.st Bt 0 [S0 T (o + 1) r.length r.length] = some h' ∧ CSt h0 h' Bi Bt M k (bs, r) := by
  obtain ⟨v, fp, gt, td, hfp⟩ := C.gt
  obtain ⟨f1, f2, f3, f4, f5, f6⟩ := C.fr
  obtain ⟨l1, l2, l3⟩ := C.lt
  rcases td with ⟨q, _⟩ | ⟨T, o, cs, rfl, hg, hd, hlen, rfl⟩
  · cases q
  · obtain ⟨t1, t2, t3, t4, t5⟩ := hfp T (by simp)
    have hct : cs[o]? = some (I t) := by
      have := congrArg (fun l => l[0]?) hd
      simpa [ints, List.getElem?_drop] using this
    have hd2 : cs.drop (o + 1) = ints r := by
      have := congrArg (fun l => l.drop 1) hd
      simpa [ints, List.drop_drop] using this
    simp only [List.length_cons] at hlen
    refine ⟨T, o, h.set Bt (.cells [S0 T (o + 1) r.length r.length] 52 none false), by rw [cell?_of gt]; rfl, by rw [cell?_of hg]; exact hct, fun K => ?_, by rw [st_of gt (by simp) rfl]; rfl, ?_⟩
    · have hb : bnd? 1 (r.length + 1) = some 1 := bnd1 (by omega)
      unfold cSliceS
      simp only [slcB, ob_some, num?, hb, AHeap.szOk, hg, Nat.beq_refl, Nat.mul_one, Nat.add_sub_cancel]
    · have g4 : ∀ i, i ≠ Bt → (h.set Bt (.cells [S0 T (o + 1) r.length r.length] 52 none false)).get i = h.get i := fun i hi => AHeap.get_set_ne _ _ hi
      refine ⟨⟨C.ext.next, fun i hi => by rw [g4 i (by omega)]; exact C.ext.keep i hi⟩, C.fr, C.lt, by rw [g4 Bi f4]; exact C.gi, C.len, by rw [g4 M (fun e => f6 e.symm)]; exact C.gm, ?_⟩
      refine ⟨_, [T], AHeap.get_set_same _ _ _, .inr ⟨T, o + 1, cs, rfl, by rw [g4 T t4]; exact hg, hd2, by simp only; omega, rfl⟩, fun i hi => ?_⟩
      simp at hi
      subst hi
      exact ⟨t1, t2, t3, t4, t5⟩

theorem ev73_L3 (X : Call) (q lf : Nat) {h0 : AHeap} {B Bi Bt M : Nat} {v : Value} {rest : List Value} {s : List NS} (hB : B < h0.next) (gB : h0.get B = .cells (v :: rest) 67 none false) (H : SA h0 v s) (hs : s.length ≤ 120) (gl : ∀ st ∈ s, st.free.length < lf) (gl2 : ∀ st ∈ s, st.free.length ≤ 1000000) (K : KS) (P : Option Ans → Prop) (R : List Bool)
    (k1 : ∀ σ' h', CSt h0 h' Bi Bt M s.length (R, []) → σ' 5 = P0 Bi 0 → P (K (.exit 2) σ' h')) :
    ∀ (f n : Nat) (x : List Bool × List Int) (σ : St) (h : AHeap), CSt h0 h Bi Bt M s.length x → closeF s f x = R → x.2.length + falses x.1 ≤ f → x.2.length + falses x.1 ≤ 1000 → (∀ t ∈ x.2, 0 ≤ t ∧ t < (s.length : Int)) → f < n → σ 2 = P0 B 0 → σ 5 = P0 Bi 0 → σ 6 = P0 Bt 0 → σ 7 = F111 Bi Bt →
    P (loopS (g73_L3 (evF EK X (q + 1)) lf) n σ h K) := by
  intro f
  induction f with
  | zero =>
    intro n x σ h C hR hf _ ht hn s2 s5 s6 s7
    obtain ⟨n, rfl⟩ : ∃ q, n = q + 1 := ⟨n - 1, by omega⟩
    obtain ⟨bs, td⟩ := x
    have : td = [] := List.eq_nil_of_length_eq_zero (by simp only at hf; omega)
    subst this
    simp only [closeF] at hR
    subst hR
    obtain ⟨tv, fp, gt, hT, _⟩ := C.gt
    obtain ⟨a, c, htv⟩ := hT.slc
    subst htv
    have ct : h.cell? Bt 0 = some (.slice a 0 c) := by rw [cell?_of gt]; rfl
    rw [loopS_succ, g73_L3]
    simp only [s6, cLoad1_ptr, ld1_eq, ct, ob_some, asLK_slc, cLenS_eq, cBin_gtr, show ¬ (((0 : Nat) : Int) > 0) by decide, decide_false, cIf_eq, Bool.false_eq_true, if_false, loopK_exit]
    exact k1 _ _ C (by simp [updL_cons, s5])
  | succ f ih =>
    intro n x σ h C hR hf hf2 ht hn s2 s5 s6 s7
    obtain ⟨n, rfl⟩ : ∃ q, n = q + 1 := ⟨n - 1, by omega⟩
    obtain ⟨bs, td⟩ := x
    match td with
    | [] =>
      rw [closeF_nil] at hR
      subst hR
      obtain ⟨tv, fp, gt, hT, _⟩ := C.gt
      obtain ⟨a, c, htv⟩ := hT.slc
      subst htv
      have ct : h.cell? Bt 0 = some (.slice a 0 c) := by rw [cell?_of gt]; rfl
      rw [loopS_succ, g73_L3]
      simp only [s6, cLoad1_ptr, ld1_eq, ct, ob_some, asLK_slc, cLenS_eq, cBin_gtr, show ¬ (((0 : Nat) : Int) > 0) by decide, decide_false, cIf_eq, Bool.false_eq_true, if_false, loopK_exit]
      exact k1 _ _ C (by simp [updL_cons, s5])
    | t :: r =>
      simp only [List.length_cons] at hf hf2
      obtain ⟨T, o, h1, ct, cT, hsl, hst, C1⟩ := C.pop (by omega)
      obtain ⟨t0, t1⟩ := ht t (by simp)
      obtain ⟨w, rfl⟩ : ∃ w : Nat, t = (w : Int) := ⟨t.toNat, by omega⟩
      have hw : w < s.length := by omega
      have hget : s[w]? = some s[w] := List.getElem?_eq_getElem hw
      have hmem := List.getElem_mem hw
      have hns : nsA s w = s[w] := by unfold nsA; rw [hget]; rfl
      generalize hst' : s[w] = st at *
      obtain ⟨S, ve, vf, Ts⟩ := (H.ext C1.ext).2 w st hget
      obtain ⟨⟨af, cf, hsf⟩, _⟩ := Ts.sf
      have hv := Ts.v
      have cB : h1.cell? B 0 = some v := by rw [cell?_keep (C1.ext.keep B hB), cell?_of gB]; rfl
      have hcf := Ts.cf
      have x0 : idx? (0 : Int) (r.length + 1) = some 0 := idx?_nat (q := 0) (by omega)
      have x1 : (((r.length + 1 : Nat) : Int) > 0) := by omega
      rw [loopS_succ, g73_L3]
      simp only [s2, s6, cLoad1_ptr, ld1_eq, ct, ob_some, asLK_slc, cLenS_eq, cBin_gtr, x1, decide_true, cIf_eq, if_true, cIdxS_slice, x0, Nat.zero_mul, Nat.add_zero, cT, asLK_int, hsl]
      rw [cStore_ptr _ _ _ _ _ (by simp [Value.cells])]
      simp only [Value.cells, List.toList_toArray, hst, ob_some, cFieldAddr_ptr, Nat.zero_add, cLoad1_ptr, ld1_eq, cB, hv, asLK_slc, cIdxS_slice, idx?_nat hw, hcf]
      rw [hsf]
      simp only [asLK_slc, cLenS_eq]
      rw [← hsf]
      simp only [closeF, Int.toNat_natCast, hns] at hR
      have A := foldl_added st.free (bs, r)
      have hsum := A.sum
      have hNL : NL h0 vf st.free := by
        obtain ⟨S', ve', vf', T'⟩ := H.2 w st hget
        have T2 := T'.ext C1.ext
        have e1 : S' = S := by have := T2.v.symm.trans hv; simpa using this
        subst e1
        have e2 : vf' = vf := by have := T2.cf.symm.trans hcf; simpa using this
        rw [← e2]; exact T'.nl
      refine ev73_L4 X q lf (k := s.length) (B := B) hNL (gl2 st hmem) (by omega) (bs, r) (by simp only; omega) _ P (fun σ' h' C' q2 q5 q6 q7 => ?_) st.free.length 0 lf _ h1 (by simpa using C1) (by omega) (by omega) (gl st hmem) (by simp [updL_cons, s2]) (by simp [updL_cons, s5]) (by simp [updL_cons, s6]) (by simp [updL_cons, s7]) (by simp [updL_cons]) (by simp [updL_cons]) (by simp [updL_cons])
      simp only [hBlk_same, hBlk_normal, loopK_normal]
      refine ih n _ _ h' C' hR (by simp only at hsum; omega) (by simp only at hsum; omega) (fun u hu => ?_) (by omega) q2 q5 q6 q7
      rcases A.todo u hu with h | ⟨h, h'⟩
      · exact ht u (by simp [h])
      · have := (List.getElem?_eq_some_iff.1 h').1
        rw [C'.len] at this
        omega

theorem ev73 (X : Call) (n : Nat) {h : AHeap} {v : Value} {r : Nat × Nat × List NS} {lv : Value} {l : List Int} (H : SA h v r.2.2) (g : AG r) (hs : r.2.2.length ≤ 120) (L : NL h lv l) (ht : l.length ≤ 1000000) (hn : 1000010 ≤ n) :
    ∃ h' w L', evF EK X (n + 2) 73 [.agg [v, I r.1, I r.2.1].toArray, lv] h = some (.ret w h') ∧ Exh h h' ∧ NL h' w L' ∧ Late h.next w ∧ L'.length ≤ 120 ∧ ∀ y : Int, y ∈ L' ↔ ∃ k : Nat, y = (k : Int) ∧ ∃ a ∈ l, 0 ≤ a ∧ a < r.2.2.length ∧ Star (FRel r.2.2) a.toNat k := by
  rw [evF_B _ _ _ _ _ _ (by kernel_rfl), g73_eq, g73]
  obtain ⟨ad, cp, hv⟩ := H.1
  have gB := get_new_self h (.cells [v, I r.1, I r.2.1] 67 none false)
  have E := Exh.new h (.cells [v, I r.1, I r.2.1] 67 none false)
  simp only [st0_zero, st0_succ, cNew_eq, Value.cells, List.toList_toArray, cFieldAddr_ptr, Nat.zero_add]
  have nB : h.next < (h.new (.cells [v, I r.1, I r.2.1] 67 none false)).next := by simp
  generalize h.new (.cells [v, I r.1, I r.2.1] 67 none false) = h1 at *
  have hc0 : h1.cell? h.next 0 = some v := by rw [cell?_of gB]; rfl
  simp only [cLoad1_ptr, ld1_eq, hc0, ob_some]
  rw [hv]
  simp only [asLK_slc, cLenS_eq]
  rw [cMakeS_eq (by unfold AHeap.most; omega) (by unfold AHeap.most; omega), ← hv, repL_false]
  have gM := get_new_self h1 (.cells ((List.replicate r.2.2.length false).map .bool) 4 none false)
  have kM : ∀ i, i < h1.next → (h1.new (.cells ((List.replicate r.2.2.length false).map .bool) 4 none false)).get i = h1.get i := fun i hi => get_new_lt _ hi
  have nM : (h1.new (.cells ((List.replicate r.2.2.length false).map .bool) 4 none false)).next = h1.next + 1 := rfl
  generalize h1.new (.cells ((List.replicate r.2.2.length false).map .bool) 4 none false) = h2 at *
  have hst : (h2.new (.cells [.slice none 0 0] 161 none false)).st h2.next 0 [S0 h1.next 0 r.2.2.length r.2.2.length] = some ((h2.new (.cells [.slice none 0 0] 161 none false)).set h2.next (.cells [S0 h1.next 0 r.2.2.length r.2.2.length] 161 none false)) := by
    rw [st_of (get_new_self _ _) (by simp) rfl]; rfl
  rw [cStore_ptr _ _ _ _ _ (by simp [Value.cells])]
  simp only [Value.cells, List.toList_toArray, hst, ob_some]
  have g3 : ((h2.new (.cells [.slice none 0 0] 161 none false)).set h2.next (.cells [S0 h1.next 0 r.2.2.length r.2.2.length] 161 none false)).get h2.next = .cells [S0 h1.next 0 r.2.2.length r.2.2.length] 161 none false := AHeap.get_set_same _ _ _
  have k3 : ∀ i, i < h2.next → ((h2.new (.cells [.slice none 0 0] 161 none false)).set h2.next (.cells [S0 h1.next 0 r.2.2.length r.2.2.length] 161 none false)).get i = h2.get i := fun i hi => by rw [AHeap.get_set_ne _ _ (by omega), get_new_lt _ hi]
  have n3 : ((h2.new (.cells [.slice none 0 0] 161 none false)).set h2.next (.cells [S0 h1.next 0 r.2.2.length r.2.2.length] 161 none false)).next = h2.next + 1 := rfl
  generalize (h2.new (.cells [.slice none 0 0] 161 none false)).set h2.next (.cells [S0 h1.next 0 r.2.2.length r.2.2.length] 161 none false) = h3 at *
  have g4 := get_new_self h3 (.cells [.slice none 0 0] 52 none false)
  have k4 : ∀ i, i < h3.next → (h3.new (.cells [.slice none 0 0] 52 none false)).get i = h3.get i := fun i hi => get_new_lt _ hi
  have n4 : (h3.new (.cells [.slice none 0 0] 52 none false)).next = h3.next + 1 := rfl
  generalize h3.new (.cells [.slice none 0 0] 52 none false) = h4 at *
  have C : CSt h1 h4 h2.next h3.next h1.next r.2.2.length (List.replicate r.2.2.length false, []) := by
    refine ⟨⟨by omega, fun i hi => by rw [k4 i (by omega), k3 i (by omega), kM i hi]⟩, by omega, by omega, by rw [k4 _ (by omega)]; exact g3, by simp, by rw [k4 _ (by omega), k3 _ (by omega)]; exact gM, _, [], g4, .inl ⟨rfl, rfl, rfl⟩, by simp⟩
  have L1 := L.ext E
  have H1 := H.ext E
  obtain ⟨la, lc, hlv, _⟩ := id L
  rw [hlv]
  simp only [cLenS_eq]
  rw [← hlv]
  have hfree : ∀ i, i < r.2.2.length → ∀ t ∈ (nsA r.2.2 i).free, 0 ≤ t ∧ t < (r.2.2.length : Int) := by
    intro i hi t htt
    have e : nsA r.2.2 i = r.2.2[i] := by unfold nsA; rw [List.getElem?_eq_getElem hi]; rfl
    rw [e] at htt
    exact g.f _ (List.getElem_mem hi) t htt
  have A := foldl_added l (List.replicate r.2.2.length false, [])
  have hsum := A.sum
  simp only [falses_rep, List.length_nil] at hsum
  obtain ⟨sp1, sp2⟩ := closeF_spec hfree l (Nat.le_refl r.2.2.length)
  obtain ⟨m, rfl⟩ : ∃ m, n = m + 1000010 := ⟨n - 1000010, by omega⟩
  refine ev73_L1 X (m + 1000010) (m + 1000010 + 1) (k := r.2.2.length) (B := h.next) L1 ht (by omega) (List.replicate r.2.2.length false, []) (by simp only [falses_rep, List.length_nil]; omega) _ (fun o => ∃ h' w L', o = some (.ret w h') ∧ Exh h h' ∧ NL h' w L' ∧ Late h.next w ∧ L'.length ≤ 120 ∧ ∀ y : Int, y ∈ L' ↔ ∃ k : Nat, y = (k : Int) ∧ ∃ a ∈ l, 0 ≤ a ∧ a < r.2.2.length ∧ Star (FRel r.2.2) a.toNat k) (fun σ' h' C' q2 q5 q6 q7 => ?_) l.length 0 (m + 1000010 + 1) _ h4 C (by omega) (by omega) (by omega) (by simp [updL_cons]) (by simp [updL_cons]) (by simp [updL_cons]) (by simp [updL_cons]) (by simp [updL_cons]) (by simp [updL_cons]) (by simp [updL_cons])
  simp only [hBlk_same, hSeq_normal, g73_C2]
  refine ev73_L3 X (m + 1000010) (m + 1000010 + 1) nB gB H1 hs (fun st hst => by have := g.fl st hst; omega) g.fl _ (fun o => ∃ h' w L', o = some (.ret w h') ∧ Exh h h' ∧ NL h' w L' ∧ Late h.next w ∧ L'.length ≤ 120 ∧ ∀ y : Int, y ∈ L' ↔ ∃ k : Nat, y = (k : Int) ∧ ∃ a ∈ l, 0 ≤ a ∧ a < r.2.2.length ∧ Star (FRel r.2.2) a.toNat k) _ (fun σ'' h'' C'' p5 => ?_) r.2.2.length (m + 1000010 + 1) _ σ' h' C' rfl (by omega) (by omega) (fun t htt => ?_) (by omega) q2 q5 q6 q7
  · simp only [hBlk_same, hSeq_normal, g73_C5]
    have ci : h''.cell? h2.next 0 = some (S0 h1.next 0 r.2.2.length r.2.2.length) := by rw [cell?_of C''.gi]; rfl
    obtain ⟨h5, w, e5, E5, N5, T5⟩ := ev112 X (m + 1000010) (h := h'') (M := h1.next) (cap := r.2.2.length) C''.lt.2.2 C''.gm (by rw [sp1]; omega) (by rw [sp1]; omega)
    rw [sp1] at e5
    obtain ⟨wa, wc, hw, _⟩ := id N5
    simp only [p5, cLoad1_ptr, ld1_eq, ci, ob_some, asLK_slc]
    rw [cCall_ret e5]
    simp only [asRetL_one, asTIL_one]
    rw [hw]
    simp only [asLK_slc]
    rw [← hw]
    refine ⟨h5, w, _, by simp [updL_cons], (E.trans C''.ext).trans E5, N5, T5.mono (by have := C''.ext.next; omega), ?_, fun y => ?_⟩
    · have := length_memGo (closeF r.2.2 r.2.2.length (l.foldl addF (List.replicate r.2.2.length false, []))) 0
      rw [sp1] at this; simp only; omega
    · rw [mem_memGo]
      constructor
      · rintro ⟨k, hk, e⟩; exact ⟨k, by rw [e]; simp, (sp2 k).1 hk⟩
      · rintro ⟨k, e, hk⟩; exact ⟨k, (sp2 k).2 hk, by rw [e]; simp⟩
  · rcases A.todo t htt with q | ⟨q, q'⟩
    · cases q
    · have := (List.getElem?_eq_some_iff.1 q').1
      rw [A.len] at this
      simp at this
      omega
end Go.Amb
end

section
/- nfa.stepped. -/
set_option linter.unusedVariables false
set_option linter.unusedSimpArgs false
namespace Go.Amb
open Go.Proofs

def edgeTo (c : Int) (st : NS) : List Int := (st.edges.filter (fun e => decide (c ∈ e.1))).map (·.2)
def stepTo (s : List NS) (c : Int) (l : List Int) : List Int := l.flatMap (fun a => edgeTo c (nsA s a.toNat))
theorem stepTo_take (s : List NS) (c : Int) {l : List Int} {i : Nat} (hi : i < l.length) : stepTo s c (l.take (i + 1)) = stepTo s c (l.take i) ++ edgeTo c (nsA s (l[i]).toNat) := by
  unfold stepTo
  rw [← List.take_append_getElem hi, List.flatMap_append]
  simp only [List.flatMap_cons, List.flatMap_nil, List.append_nil]
theorem mem_stepTo (s : List NS) (c : Int) (l : List Int) (t : Int) : t ∈ stepTo s c l ↔ ∃ a ∈ l, ∃ cls, (cls, t) ∈ (nsA s a.toNat).edges ∧ c ∈ cls := by
  simp [stepTo, edgeTo]

/-- A list being gathered in a place of its own. -/
structure OutF (h0 h : AHeap) (v : Value) (l : List Int) (fp : List Nat) : Prop where
  ext : Exh h0 h
  rep : FreeRep h v l fp
  lt : ∀ i ∈ fp, h0.next ≤ i ∧ i < h.next
theorem OutF.nl {h0 h : AHeap} {v : Value} {l : List Int} {fp : List Nat} (O : OutF h0 h v l fp) : NL h v l := O.rep.nl fun i hi => (O.lt i hi).2
theorem OutF.then {h0 h h' : AHeap} {v : Value} {l : List Int} {fp : List Nat} (O : OutF h0 h v l fp) (E : Exh h h') : OutF h0 h' v l fp :=
  ⟨O.ext.trans E, O.rep.frame fun i hi => E.keep i (O.lt i hi).2, fun i hi => by have := O.lt i hi; have := E.next; omega⟩
/-- One more: the words of 'append' with a list of one. -/
theorem OutF.push {h0 h : AHeap} {v : Value} {l : List Int} {fp : List Nat} (O : OutF h0 h v l fp) (x : Int) (hl : l.length ≤ 2000000) :
    ∃ a nn c h' w, v = .slice a nn c ∧ OutF h0 h' w (l ++ [x]) [h.next + 1] ∧ (∀ K : Value → K2, (cBuildS 3 1 [(0, 1, I x)] [(.int .i64 0)] h fun v1 h1 => cAppend 3 1 8 (.slice a nn c) v1 h1 (K v1)) = K (S0 h.next 0 1 1) w h') ∧ h.next ≤ h'.next ∧
      (∀ i, i < h.next → i ∉ fp → h'.get i = h.get i) := by
  have F := O.rep
  have hfp := O.lt
  have gn2 : (h.new (.cells [I x] 3 none false)).get h.next = .cells [I x] 3 none false := get_new_self _ _
  have n2 : (h.new (.cells [I x] 3 none false)).next = h.next + 1 := rfl
  have F2 : FreeRep (h.new (.cells [I x] 3 none false)) v l fp := F.frame fun j hj => get_new_lt _ (hfp j hj).2
  obtain ⟨a, nn, c, hh, hv, _, happ, n3, F3, k3⟩ := F2.push (fun j hj => by have := (hfp j hj).2; omega) x (by unfold AHeap.most; omega)
  have hsrc := src1 x gn2
  rw [n2] at n3 F3
  have E1 := O.ext.next
  refine ⟨a, nn, c, hh, S0 (h.next + 1) 0 (l.length + 1) (l.length + 1), hv, ⟨⟨by omega, fun j hj => ?_⟩, F3, fun i hi => by simp at hi; omega⟩, fun K => ?_, by omega, fun i hi hf => ?_⟩
  · rw [k3 j (by omega) (fun hm => by have := (hfp j hm).1; omega), get_new_lt _ (by omega), O.ext.keep j hj]
  · simp only [cBuildS_eq, fill1, ob_some, cAppend_eq, hsrc, happ, n2]
  · rw [k3 i (by omega) hf, get_new_lt _ hi]
structure Out (h0 h : AHeap) (v : Value) (l : List Int) : Prop where
  ext : Exh h0 h
  rep : ∃ fp, OutF h0 h v l fp
theorem Out.nl {h0 h : AHeap} {v : Value} {l : List Int} (O : Out h0 h v l) : NL h v l := by obtain ⟨fp, a⟩ := O.rep; exact a.nl
theorem OutF.start (h : AHeap) : OutF h h nilS [] [] := ⟨Exh.refl h, .inl ⟨rfl, rfl, rfl⟩, by simp⟩
theorem Out.start (h : AHeap) : Out h h nilS [] := ⟨Exh.refl h, [], OutF.start h⟩
theorem Out.then {h0 h h' : AHeap} {v : Value} {l : List Int} (O : Out h0 h v l) (E : Exh h h') : Out h0 h' v l := by
  obtain ⟨fp, a⟩ := O.rep
  exact ⟨O.ext.trans E, fp, a.then E⟩
theorem Out.push {h0 h : AHeap} {v : Value} {l : List Int} (O : Out h0 h v l) (x : Int) (hl : l.length ≤ 2000000) :
    ∃ a nn c h' w, v = .slice a nn c ∧ Out h0 h' w (l ++ [x]) ∧ (∀ K : Value → K2, (cBuildS 3 1 [(0, 1, I x)] [(.int .i64 0)] h fun v1 h1 => cAppend 3 1 8 (.slice a nn c) v1 h1 (K v1)) = K (S0 h.next 0 1 1) w h') := by
  obtain ⟨fp, a⟩ := O.rep
  obtain ⟨a, nn, c, h', w, q1, q2, q3, _⟩ := a.push x hl
  exact ⟨a, nn, c, h', w, q1, ⟨q2.ext, _, q2⟩, q3⟩

theorem ev74_L2 (X : Call) (q lf : Nat) {h0 h : AHeap} {v : Value} {N i : Nat} {st : NS} {S : Nat} {ve vf : Value} (T : StAt h0 v N i st S ve vf) (g : ∀ e ∈ st.edges, GC e.1) (c : Int) {w : Value} {out : List Int} (O : Out h0 h w out) (ho : out.length ≤ 1000000) (hq : 100 ≤ q) (K : KS) (P : Option Ans → Prop)
    (σ : St) (k1 : ∀ σ' h' w', Out h0 h' w' (out ++ edgeTo c st) → σ' 7 = w' → σ' 2 = σ 2 → σ' 3 = σ 3 → σ' 14 = σ 14 → σ' 15 = σ 15 → σ' 16 = σ 16 → P (K (.exit 2) σ' h')) (n : Nat)
    (h2 : σ 2 = I c) (h7 : σ 7 = w) (h25 : σ 25 = ve) (h26 : σ 26 = I st.edges.length) (h27 : σ 27 = I 0) :
    P (loopS (g74_L2 (evF EK X (q + 3)) lf) (n + 2) σ h K) := by
  rcases (T.ext O.ext).edge with ⟨e1, rfl⟩ | ⟨cls, to, G, vc, e1, rfl, hG, hg, hn⟩
  · have et : edgeTo c st = [] := by unfold edgeTo; rw [e1]; rfl
    rw [et, List.append_nil] at k1
    rw [loopS_succ, g74_L2]
    simp only [h26, h27, e1, List.length_nil, cBin_lss, show ¬ ((0 : Int) < ((0 : Nat) : Int)) by decide, decide_false, cIf_eq, Bool.false_eq_true, if_false, loopK_exit]
    exact k1 _ h w O (by simp [updL_cons, h7]) (by simp [updL_cons]) (by simp [updL_cons]) (by simp [updL_cons]) (by simp [updL_cons]) (by simp [updL_cons])
  · have gc := g (cls, to) (by rw [e1]; simp)
    simp only at gc
    have hlen := gc.len
    have et : edgeTo c st = if c ∈ cls then [to] else [] := by
      unfold edgeTo; rw [e1]
      by_cases hc : c ∈ cls <;> simp [hc]
    have hg0 : h.cell? G 0 = some vc := by rw [cell?_of hg]; rfl
    have hg1 : h.cell? G 1 = some (I to) := by rw [cell?_of hg]; rfl
    have x1 : idx? (0 : Int) 1 = some 0 := rfl
    obtain ⟨va, vcap, hvc, _⟩ := id hn
    have hst : (h.new (.cells [.slice none 0 0, .int .i64 0] 106 none false)).st h.next 0 [vc, I to] = some ((h.new (.cells [.slice none 0 0, .int .i64 0] 106 none false)).set h.next (.cells [vc, I to] 106 none false)) := by
      rw [st_of (get_new_self _ _) (by simp) (by rw [hvc]; rfl)]; rfl
    have E2 : Exh h ((h.new (.cells [.slice none 0 0, .int .i64 0] 106 none false)).set h.next (.cells [vc, I to] 106 none false)) :=
      ⟨by simp, fun j hj => by rw [AHeap.get_set_ne _ _ (by omega), get_new_lt _ hj]⟩
    have gS : ((h.new (.cells [.slice none 0 0, .int .i64 0] 106 none false)).set h.next (.cells [vc, I to] 106 none false)).get h.next = .cells [vc, I to] 106 none false := AHeap.get_set_same _ _ _
    rw [loopS_succ, g74_L2]
    simp only [h25, h26, h27, e1, List.length_cons, List.length_nil, cBin_lss, show ((0 : Int) < ((0 + 1 : Nat) : Int)) by decide, decide_true, cIf_eq, if_true, cIdxS_slice, x1, ob_some, Nat.zero_mul, Nat.add_zero, Nat.zero_add, cLoadA_ptr, ldL_cons, ldL_nil, ld1_eq, hg0, hg1, asLK_int]
    rw [hvc]
    simp only [asLK_slc, asLK_int, cNew_eq]
    rw [← hvc, cStore_ptr _ _ _ _ _ (by simp [Value.cells])]
    simp only [Value.cells, List.toList_toArray, hst, ob_some]
    generalize (h.new (.cells [.slice none 0 0, .int .i64 0] 106 none false)).set h.next (.cells [vc, I to] 106 none false) = h1 at *
    have c0 : h1.cell? h.next 0 = some vc := by rw [cell?_of gS]; rfl
    have c1 : h1.cell? h.next 1 = some (I to) := by rw [cell?_of gS]; rfl
    obtain ⟨r, e113⟩ := ev113 X q (hn.ext E2) (by omega) gc.s c (by omega)
    simp only [cFieldAddr_ptr, Nat.zero_add, cLoad1_ptr, ld1_eq, c0, ob_some]
    rw [hvc]
    simp only [asLK_slc, h2]
    rw [← hvc, cCall_ret e113]
    have O1 := O.then E2
    have fin : ∀ (σ' : St) (h' : AHeap) (w' : Value), Out h0 h' w' (out ++ edgeTo c st) → σ' 7 = w' → σ' 2 = σ 2 → σ' 3 = σ 3 → σ' 14 = σ 14 → σ' 15 = σ 15 → σ' 16 = σ 16 → σ' 26 = I 1 → σ' 27 = I 0 → P (g74_C3 (evF EK X (q + 3)) lf σ' h' (loopK (g74_L2 (evF EK X (q + 3)) lf) (n + 1) K)) := by
      intro σ' h' w' O' p7 p2 p3 p14 p15 p16 p26 p27
      rw [g74_C3]
      simp only [p27]
      rw [cBin_add _ _ _ (by omega) (by omega), loopK_normal, loopS_succ, g74_L2]
      simp only [updL_cons, updL_nil, ↓reduceIte, Nat.reduceEqDiff, p26, cBin_lss, show ¬ ((0 : Int) + 1 < 1) by decide, decide_false, cIf_eq, Bool.false_eq_true, if_false, loopK_exit]
      exact k1 _ h' w' O' (by simp [updL_cons, p7]) (by simp [updL_cons, p2]) (by simp [updL_cons, p3]) (by simp [updL_cons, p14]) (by simp [updL_cons, p15]) (by simp [updL_cons, p16])
    have h26' : σ 26 = I 1 := by rw [h26, e1]; rfl
    simp only [asRetL_two, asResL_cons, asResL_nil, asTIL_one, asLK_int, asLK_bool, cExtract_eq, List.toList_toArray, List.getElem?_cons_zero, List.getElem?_cons_succ, ob_some, cIf_eq, decide_eq_true_eq]
    by_cases hc : c ∈ cls
    · rw [if_pos hc] at et
      obtain ⟨a, nn, cc, h3, w3, hw, O3, hK⟩ := O1.push to (by omega)
      subst hw
      simp only [hc, if_true, cFieldAddr_ptr, Nat.zero_add, cLoad1_ptr, ld1_eq, c1, ob_some, asLK_int, h7]
      rw [hK]
      exact fin _ h3 w3 (by rw [et]; exact O3) (by simp [updL_cons]) (by simp [updL_cons]) (by simp [updL_cons]) (by simp [updL_cons]) (by simp [updL_cons]) (by simp [updL_cons]) (by simp [updL_cons, h26']) (by simp [updL_cons, h27])
    · rw [if_neg hc] at et
      simp only [hc, if_false]
      exact fin _ h1 w (by rw [et, List.append_nil]; exact O1) (by simp [updL_cons, h7]) (by simp [updL_cons]) (by simp [updL_cons]) (by simp [updL_cons]) (by simp [updL_cons]) (by simp [updL_cons]) (by simp [updL_cons, h26']) (by simp [updL_cons, h27])
theorem edgeTo_len {h : AHeap} {v : Value} {k i : Nat} {st : NS} {S : Nat} {ve vf : Value} (T : StAt h v k i st S ve vf) (c : Int) : (edgeTo c st).length ≤ 1 := by
  unfold edgeTo
  have : st.edges.length ≤ 1 := by rcases T.edge with ⟨q, _⟩ | ⟨_, _, _, _, q, _⟩ <;> rw [q] <;> simp
  rw [List.length_map]
  exact Nat.le_trans (List.length_filter_le _ _) this
theorem ev74_L1 (X : Call) (q lf : Nat) {h0 : AHeap} {B : Nat} {v : Value} {rest : List Value} {s : List NS} (hB : B < h0.next) (gB : h0.get B = .cells (v :: rest) 67 none false) (H : SA h0 v s) (g : ∀ st ∈ s, ∀ e ∈ st.edges, GC e.1) {lv : Value} {l : List Int} (L : NL h0 lv l) (ht : l.length ≤ 1000) (hr : ∀ t ∈ l, 0 ≤ t ∧ t < (s.length : Int)) (c : Int) (hq : 100 ≤ q) (K : KS) (P : Option Ans → Prop)
    (k1 : ∀ σ' h' w', Out h0 h' w' (stepTo s c l) → σ' 7 = w' → σ' 3 = P0 B 0 → P (K (.exit 0) σ' h')) :
    ∀ (m i n : Nat) (σ : St) (h : AHeap) (w : Value), Out h0 h w (stepTo s c (l.take i)) → (stepTo s c (l.take i)).length ≤ i → l.length - i = m → i ≤ l.length → m < n → σ 2 = I c → σ 3 = P0 B 0 → σ 7 = w → σ 14 = lv → σ 15 = I l.length → σ 16 = I i →
    P (loopS (g74_L1 (evF EK X (q + 3)) (lf + 2)) n σ h K) := by
  intro m
  induction m with
  | zero =>
    intro i n σ h w O ho hm hi hn s2 s3 s7 s14 s15 s16
    obtain ⟨n, rfl⟩ : ∃ q, n = q + 1 := ⟨n - 1, by omega⟩
    have hil : i = l.length := by omega
    subst hil
    rw [loopS_succ, g74_L1]
    simp only [s15, s16, cBin_lss, Int.lt_irrefl, decide_false, cIf_eq, Bool.false_eq_true, if_false, loopK_exit]
    rw [List.take_length] at O
    exact k1 _ _ w O (by simp [updL_cons, s7]) (by simp [updL_cons, s3])
  | succ m ih =>
    intro i n σ h w O ho hm hi hn s2 s3 s7 s14 s15 s16
    obtain ⟨n, rfl⟩ : ∃ q, n = q + 1 := ⟨n - 1, by omega⟩
    have hil : i < l.length := by omega
    obtain ⟨a, cp, hlv, hkk⟩ := L.ext O.ext
    have hli : l[i]? = some l[i] := List.getElem?_eq_getElem hil
    obtain ⟨F, ha, _, hc⟩ := hkk i l[i] hli
    subst ha
    obtain ⟨t0, t1⟩ := hr _ (List.getElem_mem hil)
    have hstep := stepTo_take s c hil
    obtain ⟨u, hu⟩ : ∃ u : Nat, l[i] = (u : Int) := ⟨(l[i]).toNat, by omega⟩
    rw [hu] at hc t0 t1 hstep
    have huu : u < s.length := by omega
    have hget : s[u]? = some s[u] := List.getElem?_eq_getElem huu
    have hmem := List.getElem_mem huu
    have hns : nsA s u = s[u] := by unfold nsA; rw [hget]; rfl
    simp only [Int.toNat_natCast] at hstep
    rw [hns] at hstep
    generalize s[u] = st at *
    obtain ⟨S, ve, vf, T⟩ := H.2 u st hget
    have T' := T.ext O.ext
    obtain ⟨⟨ae, ce, hse⟩, _⟩ := T'.se
    have hv := T'.v
    have hce := T'.ce
    have cB : h.cell? B 0 = some v := by rw [cell?_keep (O.ext.keep B hB), cell?_of gB]; rfl
    have h1' : ((i : Int) < (l.length : Int)) := by omega
    have hel := edgeTo_len T c
    rw [loopS_succ, g74_L1]
    simp only [s3, s14, hlv, s15, s16, cBin_lss, h1', decide_true, cIf_eq, if_true, cIdxS_slice, idx?_nat hil, ob_some, Nat.zero_add, Nat.mul_one, Nat.add_zero, cLoad1_ptr, ld1_eq, hc, asLK_int, cFieldAddr_ptr, cB, hv, asLK_slc, idx?_nat huu, hce]
    rw [hse]
    simp only [asLK_slc, cLenS_eq]
    rw [← hse]
    refine ev74_L2 X q (lf + 2) T (g st hmem) c O (by omega) hq _ P _ (fun σ' h' w' O' p7 p2 p3 p14 p15 p16 => ?_) lf (by simp [updL_cons, s2]) (by simp [updL_cons, s7]) (by simp [updL_cons]) (by simp [updL_cons]) (by simp [updL_cons])
    rw [← hstep] at O'
    simp only [updL_cons, updL_nil, ↓reduceIte, Nat.reduceEqDiff] at p2 p3 p14 p15 p16
    simp only [hBlk_same, hBlk_normal, hSeq_normal, g74_C4, p16, s16]
    rw [cBin_add _ _ _ (by omega) (by omega), loopK_normal]
    exact ih (i + 1) n _ h' w' O' (by rw [hstep, List.length_append]; omega) (by omega) (by omega) (by omega) (by simp [updL_cons, p2, s2]) (by simp [updL_cons, p3, s3]) (by simp [updL_cons, p7]) (by simp [updL_cons, p14, s14, hlv]) (by simp [updL_cons, p15, s15]) (by simp [updL_cons])
/-- States, and where a class leads. -/
theorem ev74 (X : Call) (n : Nat) {h : AHeap} {v : Value} {r : Nat × Nat × List NS} {lv : Value} {l : List Int} (H : SA h v r.2.2) (g : AG r) (hs : r.2.2.length ≤ 120) (L : NL h lv l) (ht : l.length ≤ 120) (hr : ∀ t ∈ l, 0 ≤ t ∧ t < (r.2.2.length : Int)) (c : Int) (hn : 1000010 ≤ n) :
    ∃ h' w L', evF EK X (n + 4) 74 [.agg [v, I r.1, I r.2.1].toArray, lv, I c] h = some (.ret w h') ∧ Exh h h' ∧ NL h' w L' ∧ Late h.next w ∧ L'.length ≤ 120 ∧ ∀ y : Int, y ∈ L' ↔ ∃ k : Nat, y = (k : Int) ∧ ∃ a ∈ l, ∃ cls, ∃ b : Nat, (cls, (b : Int)) ∈ (nsA r.2.2 a.toNat).edges ∧ c ∈ cls ∧ Star (FRel r.2.2) b k := by
  rw [evF_B _ _ _ _ _ _ (by kernel_rfl), g74_eq, g74]
  obtain ⟨ad, cp, hv⟩ := H.1
  have gB := get_new_self h (.cells [v, I r.1, I r.2.1] 67 none false)
  have E := Exh.new h (.cells [v, I r.1, I r.2.1] 67 none false)
  simp only [st0_zero, st0_succ, cNew_eq, Value.cells, List.toList_toArray]
  have nB : h.next < (h.new (.cells [v, I r.1, I r.2.1] 67 none false)).next := by simp
  generalize h.new (.cells [v, I r.1, I r.2.1] 67 none false) = h1 at *
  obtain ⟨la, lc, hlv, _⟩ := id L
  rw [hlv]
  simp only [cLenS_eq]
  rw [← hlv]
  have H1 := H.ext E
  obtain ⟨m, rfl⟩ : ∃ m, n = m + 1000010 := ⟨n - 1000010, by omega⟩
  refine ev74_L1 X (m + 1000010) (m + 1000011) (s := r.2.2) nB gB H1 (fun st hst e he => (g.e st hst e he).1) (L.ext E) (by omega) hr c (by omega) _ (fun o => ∃ h' w L', o = some (.ret w h') ∧ Exh h h' ∧ NL h' w L' ∧ Late h.next w ∧ L'.length ≤ 120 ∧ ∀ y : Int, y ∈ L' ↔ ∃ k : Nat, y = (k : Int) ∧ ∃ a ∈ l, ∃ cls, ∃ b : Nat, (cls, (b : Int)) ∈ (nsA r.2.2 a.toNat).edges ∧ c ∈ cls ∧ Star (FRel r.2.2) b k) (fun σ' h' w' O' p7 p3 => ?_) l.length 0 (m + 1000010 + 3) _ h1 nilS (Out.start h1) (by simp [stepTo]) (by omega) (by omega) (by omega) (by simp [updL_cons]) (by simp [updL_cons]) (by simp [updL_cons]) (by simp [updL_cons]) (by simp [updL_cons]) (by simp [updL_cons])
  have gB' : h'.get h.next = .cells [v, I r.1, I r.2.1] 67 none false := by rw [O'.ext.keep _ nB]; exact gB
  have hle : (stepTo r.2.2 c l).length ≤ 1000000 := by
    have key : ∀ i, i ≤ l.length → (stepTo r.2.2 c (l.take i)).length ≤ i := by
      intro i
      induction i with
      | zero => intro _; simp [stepTo]
      | succ i ih =>
        intro hi
        have hil : i < l.length := by omega
        have := ih (by omega)
        obtain ⟨t0, t1⟩ := hr _ (List.getElem_mem hil)
        have huu : (l[i]).toNat < r.2.2.length := by omega
        have hget : r.2.2[(l[i]).toNat]? = some r.2.2[(l[i]).toNat] := List.getElem?_eq_getElem huu
        have hns : nsA r.2.2 (l[i]).toNat = r.2.2[(l[i]).toNat] := by unfold nsA; rw [hget]; rfl
        obtain ⟨S, ve, vf, T⟩ := H.2 _ _ hget
        have := edgeTo_len T c
        rw [stepTo_take _ _ hil, List.length_append, hns]
        omega
    have := key l.length (Nat.le_refl _)
    rw [List.take_length] at this
    omega
  obtain ⟨h2, w2, L2, e2, E2, N2, T2, n2, m2⟩ := ev73 X (m + 1000011) (H1.ext O'.ext) g hs O'.nl hle (by omega)
  simp only [hBlk_same, hSeq_normal, g74_C5, p3, p7, cLoadA_ptr, ld3 gB' ⟨_, _, _, hv⟩]
  rw [cCall_ret e2]
  obtain ⟨wa, wc, hw, _⟩ := id N2
  simp only [asRetL_one, asTIL_one]
  rw [hw]
  simp only [asLK_slc]
  rw [← hw]
  refine ⟨h2, w2, L2, by simp [updL_cons], (E.trans O'.ext).trans E2, N2, T2.mono (by have := O'.ext.next; omega), n2, fun y => ?_⟩
  rw [m2]
  constructor
  · rintro ⟨k, rfl, t, htt, q1, q2, st⟩
    obtain ⟨a, ha, cls, he, hc⟩ := (mem_stepTo _ _ _ _).1 htt
    obtain ⟨b, rfl⟩ : ∃ b : Nat, t = (b : Int) := ⟨t.toNat, by omega⟩
    exact ⟨k, rfl, a, ha, cls, b, he, hc, by simpa using st⟩
  · rintro ⟨k, rfl, a, ha, cls, b, he, hc, st⟩
    obtain ⟨t0, t1⟩ := hr a ha
    have huu : a.toNat < r.2.2.length := by omega
    have hns : nsA r.2.2 a.toNat = r.2.2[a.toNat] := by unfold nsA; rw [List.getElem?_eq_getElem huu]; rfl
    have := (g.e _ (List.getElem_mem huu) (cls, (b : Int)) (by rw [← hns]; exact he)).2
    simp only at this
    exact ⟨k, rfl, (b : Int), (mem_stepTo _ _ _ _).2 ⟨a, ha, cls, he, hc⟩, by omega, this.2, by simpa using st⟩
end Go.Amb
end

section
/- nfa.Ends, nfa.Takes. -/
set_option linter.unusedVariables false
set_option linter.unusedSimpArgs false
namespace Go.Amb
open Go.Proofs

theorem Star.snoc_ind {α : Type} {R : α → α → Prop} {x : α} {P : α → Prop} (h0 : P x) (hs : ∀ y z, Star R x y → P y → R y z → P z) {z : α} (h : Star R x z) : P z := by
  have : ∀ y z, Star R y z → Star R x y → P y → P z := by
    intro y z g
    induction g with
    | refl y => intro _ p; exact p
    | @step y w z r t ih => intro s p; exact ih (s.snoc r) (hs _ _ s p r)
  exact this x z h (.refl _) h0
theorem star_free {s : List NS} {c : List Int} {x y j : Nat} (h : Star (FRel s) x y) : Star (Stp s c) (x, j) (y, j) := by
  induction h with
  | refl x => exact .refl _
  | @step x w y r t ih => exact .step (y := (w, j)) (.inl ⟨r, rfl⟩) ih
/-- What is reached with so many classes. -/
def Lev (s : List NS) (c : List Int) (i : Nat) : Nat → Nat → Prop
  | 0, y => Star (FRel s) i y
  | j + 1, y => ∃ a cls b v, Star (Stp s c) (i, 0) (a, j) ∧ c[j]? = some v ∧ v ∈ cls ∧ (cls, ((b : Nat) : Int)) ∈ (nsA s a).edges ∧ Star (FRel s) b y
theorem lev_iff (s : List NS) (c : List Int) (i : Nat) (j y : Nat) : Lev s c i j y ↔ Star (Stp s c) (i, 0) (y, j) := by
  constructor
  · intro h
    cases j with
    | zero => exact star_free h
    | succ j =>
      obtain ⟨a, cls, b, v, h1, h2, h3, h4, h5⟩ := h
      exact h1.trans (.step (y := (b, j + 1)) (.inr ⟨cls, h4, rfl, v, h2, h3⟩) (star_free h5))
  · intro h
    have : ∀ z : Nat × Nat, Star (Stp s c) (i, 0) z → Lev s c i z.2 z.1 := by
      intro z hz
      refine Star.snoc_ind (P := fun z => Lev s c i z.2 z.1) (show Lev s c i 0 i from Star.refl _) (fun y z hy p r => ?_) hz
      obtain ⟨y1, y2⟩ := y
      obtain ⟨z1, z2⟩ := z
      rcases r with ⟨r1, r2⟩ | ⟨cls, r1, r2, v, r3, r4⟩
      · simp only at r1 r2 p ⊢
        subst r2
        cases z2 with
        | zero => exact Star.snoc p r1
        | succ j => obtain ⟨a, cls, b, v, h1, h2, h3, h4, h5⟩ := p; exact ⟨a, cls, b, v, h1, h2, h3, h4, h5.snoc r1⟩
      · simp only at r1 r2 r3 r4 p ⊢
        subst r2
        exact ⟨y1, cls, z1, v, hy, r3, r4, r1, .refl _⟩
    exact this (y, j) h

open Classical in
noncomputable def pick (P : Nat → Prop) : Nat → Nat → List Int
  | 0, _ => []
  | m + 1, k => if P k then (k : Int) :: pick P m (k + 1) else pick P m (k + 1)
theorem pick_none {P : Nat → Prop} : ∀ (m k : Nat), (∀ j, k ≤ j → ¬ P j) → pick P m k = [] := by
  intro m
  induction m with
  | zero => intro k _; rfl
  | succ m ih => intro k h; rw [pick, if_neg (h k (Nat.le_refl _))]; exact ih _ fun j hj => h j (by omega)
theorem pick_congr {P Q : Nat → Prop} : ∀ (m k : Nat), (∀ j, k ≤ j → j < k + m → (P j ↔ Q j)) → pick P m k = pick Q m k := by
  intro m
  induction m with
  | zero => intro k _; rfl
  | succ m ih =>
    intro k h
    have e := h k (Nat.le_refl _) (by omega)
    have := ih (k + 1) fun j h1 h2 => h j (by omega) (by omega)
    simp only [pick, this]
    by_cases hp : P k
    · rw [if_pos hp, if_pos (e.1 hp)]
    · rw [if_neg hp, if_neg fun q => hp (e.2 q)]
theorem mem_pick {P : Nat → Prop} : ∀ (m k : Nat) (x : Int), x ∈ pick P m k ↔ ∃ j : Nat, x = (j : Int) ∧ k ≤ j ∧ j < k + m ∧ P j := by
  intro m
  induction m with
  | zero => intro k x; simp [pick]; intro j _ h1 h2; omega
  | succ m ih =>
    intro k x
    have hr : (∃ j : Nat, x = (j : Int) ∧ k ≤ j ∧ j < k + (m + 1) ∧ P j) ↔ (P k ∧ x = (k : Int)) ∨ ∃ j : Nat, x = (j : Int) ∧ k + 1 ≤ j ∧ j < k + 1 + m ∧ P j := by
      constructor
      · rintro ⟨j, e, h1, h2, h3⟩
        by_cases ej : j = k
        · subst ej; exact .inl ⟨h3, e⟩
        · exact .inr ⟨j, e, by omega, by omega, h3⟩
      · rintro (⟨h, e⟩ | ⟨j, e, h1, h2, h3⟩)
        · exact ⟨k, e, by omega, by omega, h⟩
        · exact ⟨j, e, by omega, by omega, h3⟩
    rw [hr, ← ih (k + 1) x, pick]
    by_cases hp : P k
    · rw [if_pos hp]; simp [hp]
    · rw [if_neg hp]; simp [hp]
theorem length_pick (P : Nat → Prop) : ∀ (m k : Nat), (pick P m k).length ≤ m := by
  intro m
  induction m with
  | zero => intro k; simp [pick]
  | succ m ih => intro k; have := ih (k + 1); rw [pick]; split <;> simp <;> omega

/-- The list of states at a place. -/
def AtLev (s : List NS) (c : List Int) (i j : Nat) (L : List Int) : Prop := ∀ y : Int, y ∈ L ↔ ∃ k : Nat, y = (k : Int) ∧ Star (Stp s c) (i, 0) (k, j)

/-- A list that stands beside another. -/
def Away (v : Value) (fp : List Nat) : Prop := ∀ F o n c, v = .slice (some ⟨F, o, none⟩) n c → F ∉ fp
theorem NL.away {h h' : AHeap} {v : Value} {l : List Int} {fp : List Nat} (H : NL h v l) (A : Away v fp) (hn : h.next ≤ h'.next) (k : ∀ i, i < h.next → i ∉ fp → h'.get i = h.get i) : NL h' v l := by
  obtain ⟨a, c, e, kk⟩ := H
  refine ⟨a, c, e, fun i x hx => ?_⟩
  obtain ⟨F, h1, h2, h3⟩ := kk i x hx
  subst h1
  exact ⟨F, rfl, by omega, by rw [cell?_keep (k F h2 (A F 0 _ _ e))]; exact h3⟩
theorem star_lt {r : Nat × Nat × List NS} (g : AG r) {c : List Int} {z : Nat × Nat} (hz : Star (Stp r.2.2 c) (r.1, 0) z) : z.1 < r.2.2.length := by
  refine Star.snoc_ind (P := fun z => z.1 < r.2.2.length) g.i (fun y z hy p st => ?_) hz
  have hns : nsA r.2.2 y.1 = r.2.2[y.1] := by unfold nsA; rw [List.getElem?_eq_getElem p]; rfl
  rcases st with ⟨q1, _⟩ | ⟨cls, q1, _⟩
  · have := g.f _ (List.getElem_mem p) _ (by rw [← hns]; exact q1); omega
  · have := (g.e _ (List.getElem_mem p) _ (by rw [← hns]; exact q1)).2
    simp only at this; omega
abbrev Tk (r : Nat × Nat × List NS) (c : List Int) : Nat → Prop := fun j => Star (Stp r.2.2 c) (r.1, 0) (r.2.1, j)

theorem ev38_loop (X : Call) (q lf : Nat) {h0 : AHeap} {B : Nat} {v : Value} {r : Nat × Nat × List NS} (hB : B < h0.next) (gB : h0.get B = .cells [v, I r.1, I r.2.1] 67 none false) (H : SA h0 v r.2.2) (g : AG r) (hs : r.2.2.length ≤ 120)
    {cv : Value} {c : List Int} (Cc : NL h0 cv c) (hc : c.length ≤ 1000) (hq : 1000010 ≤ q) (P : Option Ans → Prop)
    (k1 : ∀ h' w, Exh h0 h' → NL h' w (pick (Tk r c) (c.length + 1) 0) → P (some (.ret w h'))) :
    ∀ (m k n : Nat) (σ : St) (h : AHeap) (w lw : Value) (out L : List Int) (fp : List Nat), c.length - k = m → k ≤ c.length → m < n → OutF h0 h w out fp → out.length ≤ k → out ++ pick (Tk r c) (c.length + 1 - k) k = pick (Tk r c) (c.length + 1) 0 →
      NL h lw L → Away lw fp → L.length ≤ 120 → AtLev r.2.2 c r.1 k L → σ 1 = cv → σ 3 = P0 B 0 → σ 7 = w → σ 8 = lw → σ 9 = I k →
    P (loopS (g38_L2 (evF EK X (q + 6)) lf) n σ h (hBlk 0 (finS EK [.tmp 6]))) := by
  intro m
  induction m with
  | zero =>
    intro k n σ h w lw out L fp hm hk hn O ho hout NLl hA0 hL hA s1 s3 s7 s8 s9
    obtain ⟨n, rfl⟩ : ∃ q, n = q + 1 := ⟨n - 1, by omega⟩
    have hkl : k = c.length := by omega
    subst hkl
    have gB' : h.get B = .cells [v, I r.1, I r.2.1] 67 none false := by rw [O.ext.keep _ hB]; exact gB
    have c2 : h.cell? B 2 = some (I r.2.1) := by rw [cell?_of gB']; rfl
    have e70 := ev70 X (q + 4) NLl (by omega) (r.2.1 : Int) (by omega)
    have hmem : ((r.2.1 : Int) ∈ L) ↔ Tk r c c.length := by
      rw [hA]
      constructor
      · rintro ⟨k, e, h⟩
        have : k = r.2.1 := by omega
        subst this; exact h
      · intro h; exact ⟨_, rfl, h⟩
    obtain ⟨ca, cc, hcv, _⟩ := id Cc
    have fin : ∀ (σ' : St) (h' : AHeap) (w' : Value) (fp' : List Nat), OutF h0 h' w' (pick (Tk r c) (c.length + 1) 0) fp' → σ' 7 = w' → σ' 1 = cv → σ' 9 = I c.length → P (g38_C3 (evF EK X (q + 6)) lf σ' h' (loopK (g38_L2 (evF EK X (q + 6)) lf) n (hBlk 0 (finS EK [.tmp 6])))) := by
      intro σ' h' w' fp' O' p7 p1 p9
      rw [g38_C3]
      simp only [p1, hcv, p9, cLenS_eq, cBin_eql, decide_true, gd_true, cPick_eq, if_true]
      rw [g38_C4]
      simp only [updL_cons, updL_nil, ↓reduceIte, Nat.reduceEqDiff, cIf_eq, if_true, loopK_ret, hBlk_ret, finS_ret, evResS_tmp, evResS_nil, retOf_one, p7]
      exact k1 _ _ O'.ext O'.nl
    rw [loopS_succ, g38_L2]
    simp only [s3, s8, cFieldAddr_ptr, Nat.zero_add, cLoad1_ptr, ld1_eq, c2, ob_some, asLK_int]
    rw [cCall_ret e70]
    simp only [asRetL_one, asTIL_one, asLK_bool, cIf_eq, decide_eq_true_eq]
    have e1 : c.length + 1 - c.length = 0 + 1 := by omega
    rw [e1, pick, pick] at hout
    by_cases hp : (r.2.1 : Int) ∈ L
    · rw [if_pos (hmem.1 hp)] at hout
      obtain ⟨a, nn, cc', h3, w3, hw, O3, hK, _⟩ := O.push (c.length : Int) (by omega)
      subst hw
      rw [if_pos hp]
      simp only [s7, s9]
      rw [hK]
      exact fin _ h3 w3 _ (by rw [← hout]; exact O3) (by simp [updL_cons]) (by simp [updL_cons, s1]) (by simp [updL_cons, s9])
    · rw [if_neg fun q => hp (hmem.2 q)] at hout
      rw [if_neg hp]
      exact fin _ h w fp (by rw [← hout, List.append_nil]; exact O) (by simp [updL_cons, s7]) (by simp [updL_cons, s1]) (by simp [updL_cons, s9])
  | succ m ih =>
    intro k n σ h w lw out L fp hm hk hn O ho hout NLl hA0 hL hA s1 s3 s7 s8 s9
    obtain ⟨n, rfl⟩ : ∃ q, n = q + 1 := ⟨n - 1, by omega⟩
    have hkl : k < c.length := by omega
    have gB' : h.get B = .cells [v, I r.1, I r.2.1] 67 none false := by rw [O.ext.keep _ hB]; exact gB
    have c2 : h.cell? B 2 = some (I r.2.1) := by rw [cell?_of gB']; rfl
    have e70 := ev70 X (q + 4) NLl (by omega) (r.2.1 : Int) (by omega)
    have hmem : ((r.2.1 : Int) ∈ L) ↔ Tk r c k := by
      rw [hA]
      constructor
      · rintro ⟨k, e, h⟩
        have : k = r.2.1 := by omega
        subst this; exact h
      · intro h; exact ⟨_, rfl, h⟩
    have hrange : ∀ t ∈ L, 0 ≤ t ∧ t < (r.2.2.length : Int) := by
      intro t htt
      obtain ⟨u, rfl, hst⟩ := (hA t).1 htt
      have := star_lt g hst
      simp only at this
      omega
    have fin : ∀ (σ' : St) (h' : AHeap) (w' : Value) (out' : List Int) (fp' : List Nat), OutF h0 h' w' out' fp' → NL h' lw L → out'.length ≤ k + 1 → out' ++ pick (Tk r c) (c.length + 1 - (k + 1)) (k + 1) = pick (Tk r c) (c.length + 1) 0 → σ' 7 = w' → σ' 1 = cv → σ' 3 = P0 B 0 → σ' 8 = lw → σ' 9 = I k → P (g38_C3 (evF EK X (q + 6)) lf σ' h' (loopK (g38_L2 (evF EK X (q + 6)) lf) n (hBlk 0 (finS EK [.tmp 6])))) := by
      intro σ' h' w' out' fp' O' NL' ho' hout' p7 p1 p3 p8 p9
      obtain ⟨la, lc, hlw, _⟩ := id NLl
      have x1 : ¬ ((k : Int) = (c.length : Int)) := by omega
      have gB'' : h'.get B = .cells [v, I r.1, I r.2.1] 67 none false := by rw [O'.ext.keep _ hB]; exact gB
      obtain ⟨ad, cp, hv⟩ := H.1
      obtain ⟨ca, cc, hcv, hck⟩ := Cc.ext O'.ext
      obtain ⟨F, hca, _, hcc⟩ := hck k c[k] (List.getElem?_eq_getElem hkl)
      subst hca
      rw [g38_C3]
      simp only [p1, p8, hcv, hlw, p9, cLenS_eq, cBin_eql, x1, decide_false, gd_false, cPick_eq, Bool.false_eq_true, if_false]
      rw [g38_C4]
      simp only [updL_cons, updL_nil, ↓reduceIte, Nat.reduceEqDiff, cIf_eq, decide_eq_true_eq, p1, p3, p7, p8, p9, hcv]
      by_cases hL0 : (L.length : Int) = 0
      · have hLn : L = [] := List.eq_nil_of_length_eq_zero (by omega)
        rw [if_pos hL0]
        simp only [loopK_ret, hBlk_ret, finS_ret, updL_cons, updL_nil, ↓reduceIte, Nat.reduceEqDiff, evResS_tmp, evResS_nil, retOf_one]
        have hno : ∀ j, k ≤ j → ∀ y, ¬ Star (Stp r.2.2 c) (r.1, 0) (y, j) := by
          intro j hj
          induction j with
          | zero =>
            intro y hy
            have : k = 0 := by omega
            subst this
            have := (hA (y : Int)).2 ⟨y, rfl, hy⟩
            rw [hLn] at this; cases this
          | succ j ihj =>
            intro y hy
            by_cases ek : k = j + 1
            · subst ek
              have := (hA (y : Int)).2 ⟨y, rfl, hy⟩
              rw [hLn] at this; cases this
            · obtain ⟨a, cls, b, vv, h1, _⟩ := (lev_iff _ _ _ _ _).2 hy
              exact ihj (by omega) a h1
        rw [pick_none _ _ (fun j hj => hno j (by omega) _), List.append_nil] at hout'
        rw [← hout'] at k1
        exact k1 _ _ O'.ext O'.nl
      · rw [if_neg hL0]
        obtain ⟨h2, w2, L2, e2, E2, N2, T2, n2, m2⟩ := ev74 X (q + 2) (H.ext O'.ext) g hs NL' hL hrange c[k] (by omega)
        simp only [cLoadA_ptr, ld3 gB'' ⟨_, _, _, hv⟩, rety_eq, dr_ret, cIdxS_slice, idx?_nat hkl, ob_some, Nat.zero_add, Nat.mul_one, cLoad1_ptr, ld1_eq, hcc, asLK_int]
        rw [← hlw, cCall_ret e2]
        obtain ⟨wa, wc, hw, _⟩ := id N2
        simp only [asRetL_one, asTIL_one]
        rw [hw]
        simp only [asLK_slc, rety_eq, dr_ret]
        rw [← hw, cBin_add _ _ _ (by omega) (by omega), loopK_normal]
        refine ih (k + 1) n _ h2 w' w2 out' L2 fp' (by omega) (by omega) (by omega) (O'.then E2) ho' hout' N2 (fun F o n c e hm => ?_) n2 (fun y => ?_) (by simp [updL_cons, p1, hcv]) (by simp [updL_cons, p3]) (by simp [updL_cons, p7]) (by simp [updL_cons]) (by simp [updL_cons])
        · have := T2 F o n c e
          have := (O'.lt F hm).2
          omega
        rw [m2]
        constructor
        · rintro ⟨u, rfl, a, ha, cls, b, he, hcm, st⟩
          obtain ⟨a', rfl, hst⟩ := (hA a).1 ha
          exact ⟨u, rfl, (lev_iff _ _ _ _ _).1 ⟨a', cls, b, c[k], hst, List.getElem?_eq_getElem hkl, hcm, by simpa using he, st⟩⟩
        · rintro ⟨u, rfl, hst⟩
          obtain ⟨a, cls, b, vv, h1, h2, h3, h4, h5⟩ := (lev_iff _ _ _ _ _).2 hst
          rw [List.getElem?_eq_getElem hkl] at h2
          cases h2
          exact ⟨u, rfl, (a : Int), (hA _).2 ⟨a, rfl, h1⟩, cls, b, by simpa using h4, h3, h5⟩
    rw [loopS_succ, g38_L2]
    simp only [s3, s8, cFieldAddr_ptr, Nat.zero_add, cLoad1_ptr, ld1_eq, c2, ob_some, asLK_int]
    rw [cCall_ret e70]
    simp only [asRetL_one, asTIL_one, asLK_bool, cIf_eq, decide_eq_true_eq]
    have e1 : c.length + 1 - k = (c.length + 1 - (k + 1)) + 1 := by omega
    rw [e1, pick] at hout
    by_cases hp : (r.2.1 : Int) ∈ L
    · rw [if_pos (hmem.1 hp)] at hout
      obtain ⟨a, nn, cc', h3, w3, hw, O3, hK, hnx, hkp⟩ := O.push (k : Int) (by omega)
      subst hw
      rw [if_pos hp]
      simp only [s7, s9]
      rw [hK]
      exact fin _ h3 w3 _ _ O3 (NLl.away hA0 hnx hkp) (by simp; omega) (by rw [List.append_assoc]; exact hout) (by simp [updL_cons]) (by simp [updL_cons, s1]) (by simp [updL_cons, s3]) (by simp [updL_cons, s8]) (by simp [updL_cons, s9])
    · rw [if_neg fun q => hp (hmem.2 q)] at hout
      rw [if_neg hp]
      exact fin _ h w out fp O NLl (by omega) hout (by simp [updL_cons, s7]) (by simp [updL_cons, s1]) (by simp [updL_cons, s3]) (by simp [updL_cons, s8]) (by simp [updL_cons, s9])

theorem ev38 (X : Call) (n : Nat) {h : AHeap} {v : Value} {r : Nat × Nat × List NS} {cv : Value} {c : List Int} (H : SA h v r.2.2) (g : AG r) (hs : r.2.2.length ≤ 120) (Cc : NL h cv c) (hc : c.length ≤ 1000) (hn : 1000010 ≤ n) :
    ∃ h' w, evF EK X (n + 7) 38 [.agg [v, I r.1, I r.2.1].toArray, cv, I 0] h = some (.ret w h') ∧ Exh h h' ∧ NL h' w (pick (Tk r c) (c.length + 1) 0) := by
  rw [evF_B _ _ _ _ _ _ (by kernel_rfl), g38_eq, g38]
  obtain ⟨ad, cp, hv⟩ := H.1
  have gB := get_new_self h (.cells [v, I r.1, I r.2.1] 67 none false)
  have E := Exh.new h (.cells [v, I r.1, I r.2.1] 67 none false)
  simp only [st0_zero, st0_succ, cNew_eq, Value.cells, List.toList_toArray]
  have nB : h.next < (h.new (.cells [v, I r.1, I r.2.1] 67 none false)).next := by simp
  generalize h.new (.cells [v, I r.1, I r.2.1] 67 none false) = h1 at *
  have H1 := H.ext E
  obtain ⟨h2, e2, E2⟩ := ev72 X n H1 g hs hn
  obtain ⟨ca, cc, hcv, _⟩ := id Cc
  have x1 : ¬ ((0 : Int) > (c.length : Int)) := by omega
  simp only [cLoadA_ptr, ld3 gB ⟨_, _, _, hv⟩]
  rw [cCall_ret e2]
  simp only [asRetL_one, asTIL_one, asLK_bool, cUn_not, Bool.not_true, gd_false, cBin_lss, Int.lt_irrefl, decide_false, cPick_eq, Bool.false_eq_true, if_false]
  rw [hcv]
  simp only [cLenS_eq, cBin_gtr, x1, decide_false, cPick_eq, Bool.false_eq_true, if_false]
  rw [← hcv, g38_C1]
  have gB2 : h2.get h.next = .cells [v, I r.1, I r.2.1] 67 none false := by rw [E2.keep _ nB]; exact gB
  have c1 : h2.cell? h.next 1 = some (I r.1) := by rw [cell?_of gB2]; rfl
  simp only [updL_cons, updL_nil, ↓reduceIte, Nat.reduceEqDiff, cIf_eq, Bool.false_eq_true, if_false, cLoadA_ptr, ld3 gB2 ⟨_, _, _, hv⟩, cFieldAddr_ptr, Nat.zero_add, cLoad1_ptr, ld1_eq, c1, ob_some, asLK_int, cBuildS_eq, fill1]
  have g3 := get_new_self h2 (.cells [I r.1] 3 none false)
  have E3 := Exh.new h2 (.cells [I r.1] 3 none false)
  have n3 : h2.next < (h2.new (.cells [I r.1] 3 none false)).next := by simp
  generalize h2.new (.cells [I r.1] 3 none false) = h3 at *
  have N3 : NL h3 (S0 h2.next 0 1 1) [(r.1 : Int)] := NL.of (l := [(r.1 : Int)]) g3 n3
  have EE := (E.trans E2).trans E3
  obtain ⟨h4, w4, L4, e4, E4, N4, T4, n4, m4⟩ := ev73 X (n + 4) (H.ext EE) g hs N3 (by simp) (by omega)
  rw [cCall_ret e4]
  obtain ⟨wa, wc, hw, _⟩ := id N4
  simp only [asRetL_one, asTIL_one]
  rw [hw]
  simp only [asLK_slc]
  rw [← hw]
  have E14 := (E2.trans E3).trans E4
  have g1 := g.i
  refine ev38_loop X n (n + 6) (c := c) (Nat.lt_of_lt_of_le nB E14.next) (by rw [E14.keep _ nB]; exact gB) (H1.ext E14) g hs ((Cc.ext E).ext E14) hc hn (fun o => ∃ h' w, o = some (.ret w h') ∧ Exh h h' ∧ NL h' w (pick (Tk r c) (c.length + 1) 0)) (fun h' w E' N' => ⟨h', w, rfl, (E.trans E14).trans E', N'⟩) c.length 0 (n + 6) _ h4 nilS w4 [] L4 [] (by omega) (by omega) (by omega) (OutF.start h4) (by simp) (by simp) N4 (fun _ _ _ _ _ => by simp) n4 (fun y => ?_) (by simp [updL_cons]) (by simp [updL_cons]) (by simp [updL_cons]) (by simp [updL_cons]) (by simp [updL_cons])
  rw [m4]
  constructor
  · rintro ⟨k, rfl, a, ha, _, _, st⟩
    simp at ha
    subst ha
    exact ⟨k, rfl, (lev_iff _ _ _ 0 _).1 (by simpa [Lev] using st)⟩
  · rintro ⟨k, rfl, st⟩
    exact ⟨k, rfl, (r.1 : Int), by simp, by omega, by omega, by simpa [Lev] using (lev_iff _ _ _ 0 _).2 st⟩
theorem ev35 (X : Call) (n : Nat) {h : AHeap} {v : Value} {r : Nat × Nat × List NS} {cv : Value} {c : List Int} (H : SA h v r.2.2) (g : AG r) (hs : r.2.2.length ≤ 120) (Cc : NL h cv c) (hc : c.length ≤ 1000) (hn : 1000010 ≤ n) :
    ∃ h', evF EK X (n + 8) 35 [.agg [v, I r.1, I r.2.1].toArray, cv] h = some (.ret (.bool (decide ((c.length : Int) ∈ pick (Tk r c) (c.length + 1) 0))) h') ∧ Exh h h' := by
  rw [evF_B _ _ _ _ _ _ (by kernel_rfl), g35_eq, g35]
  obtain ⟨ad, cp, hv⟩ := H.1
  have gB := get_new_self h (.cells [v, I r.1, I r.2.1] 67 none false)
  have E := Exh.new h (.cells [v, I r.1, I r.2.1] 67 none false)
  simp only [st0_zero, st0_succ, cNew_eq, Value.cells, List.toList_toArray]
  generalize h.new (.cells [v, I r.1, I r.2.1] 67 none false) = h1 at *
  obtain ⟨h2, w, e2, E2, N2⟩ := ev38 X n (H.ext E) g hs (Cc.ext E) hc hn
  obtain ⟨ca, cc, hcv, _⟩ := id Cc
  have hlp := length_pick (Tk r c) (c.length + 1) 0
  have e3 := ev70 X (n + 5) N2 (by omega) (c.length : Int) (by omega)
  obtain ⟨wa, wc, hw, _⟩ := id N2
  simp only [cLoadA_ptr, ld3 gB ⟨_, _, _, hv⟩]
  rw [cCall_ret e2]
  simp only [asRetL_one, asTIL_one]
  rw [hw]
  simp only [asLK_slc]
  rw [← hw, hcv]
  simp only [cLenS_eq]
  rw [cCall_ret e3]
  simp only [asRetL_one, asTIL_one, asLK_bool]
  exact ⟨h2, by simp [updL_cons], E.trans E2⟩
end Go.Amb
end
