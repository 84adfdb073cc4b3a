/- Part of the proof by the abstract machine: no claim of its own. -/
import Derived.Test.YtnfncnchbogncaaDoorU3
import Derived.Test.YtnfncnchbogncaaDoorA20
import Derived.WalkKit
import Derived.OwnWalkIn
import Derived.TacticsInMore
import Derived.LoopNIn
import Derived.LoopIn
import Derived.Lib.OthersKept
import Derived.WalkSmall
set_option linter.unusedSimpArgs false
set_option linter.unusedVariables false
set_option linter.unnecessarySimpa false
set_option linter.unusedSectionVars false
/- The iterator of utf.Each: what it hands over, and that it does. -/
set_option linter.unusedVariables false
namespace Go.Amb
open Go.RowKit Go.Proofs

/-- The runes of a text, one behind the other, each with its place. -/
def itEach : Iter where
  start lb h := match lb with
    | [v] => ob (ptr? v) fun a => ob a fun a => h.ld1 a.block a.off .str fun s => some [s, .int .i64 0]
    | _ => none
  next _ st _ := match st with
    | [.string s, .int .i64 p] => match Nat.ble s.size p.toNat with
      | true => some none
      | false => some (some ([.int .i64 (p.toNat : Nat), .int .i32 (Utf8.decode s p.toNat).1], [.string s, .int .i64 ((p.toNat + (Utf8.decode s p.toNat).2 : Nat) : Int)]))
    | _ => none

theorem width_pos1 (s : ByteArray) (pos : Nat) : 1 ≤ (Utf8.decode s pos).2 := by
  unfold Utf8.decode
  simp only
  split
  · simp
  · split
    · split <;> simp
    · split
      · split <;> simp
      · split
        · split <;> simp
        · simp


set_option maxRecDepth 100000 in
set_option maxHeartbeats 1000000 in
theorem each1_in (F : Fence) (n : Nat) (h6 : F.fn 15) (hro : F.round = none) (hn : 1 ≤ n) (l : Nat) (pa : Addr) (s : ByteArray) (J : List Nat → Nat → World → Prop) (Jx Done : World → Prop)
    (hY : ∀ O p W, J O p W → (s.size ≤ p → Done W) ∧ (p < s.size → YieldAt F (n - 1) Tryd.prog l #[.int .i64 (p : Nat), .int .i32 (Utf8.decode s p).1] W fun e W' =>
      (∀ i, i ∈ O → W'.heap[i]? = W.heap[i]?) ∧ ((e = .returned (.bool true) ∧ J O (p + (Utf8.decode s p).2) W') ∨ (e = .returned (.bool false) ∧ Jx W'))))
    (hA : ∀ O p W ob, J O p W → J (W.heap.size :: O) p (W.alloc ob)) (hT : ∀ O p W r ob, J O p W → r ∈ O → J O p (W.putObj r ob))
    (W : World) (hc : W.cell? pa = some (.string s)) (h0 : J [] 0 W) :
    CallsIn F n Tryd.prog 15 #[.func (.yield l) #[] #[], .pointer (some pa)] W fun e W' => (∃ v, e = .returned v) ∧ (Jx W' ∨ Done W') := by
  have h1 := hA [] 0 W (.stringIter s 0) h0
  refine callsIn_of_wp Tryd.func15 rfl h6 ?_ hro
  simp only [Tryd.ntmps15, List.size_toArray, List.length_cons, List.length_nil, Nat.reduceAdd, Nat.reduceSub, Array.replicate_succ, Array.replicate_zero, List.push_toArray, List.append_toArray, List.nil_append, List.cons_append]
  gi_wp2
  gi_loopw [3] (fun _ wr => ∃ p : Nat, wr.heap[W.heap.size]? = some (.stringIter s p) ∧ J [W.heap.size] p wr)
    (fun _ wr => s.size - wr.iterPos W.heap.size)
  case atStart =>
    exact ⟨0, World.iter_heap W s 0, h1⟩
  case round =>
    obtain ⟨p, hit, hJ⟩ := hrel
    have hpos0 := iterPos_of hit
    by_cases hp : p < s.size
    · have hnx : ∀ ty, (Instr.next (.pointer (some ⟨W.heap.size, 0, none⟩)) true ty).run Tryd.prog wr = _ := fun ty => Lib.run_next_any_at wr W.heap.size s p ty hit hp
      have hJ1 : J [W.heap.size] p (wr.iterAt W.heap.size s (p + (Utf8.decode s p).2)) := hT _ _ _ _ (.stringIter s (p + (Utf8.decode s p).2)) hJ (by simp)
      have hit2 := Lib.iterAt_heap wr W.heap.size s p (p + (Utf8.decode s p).2) hit
      obtain ⟨W1, hW1⟩ : ∃ W1, W1 = wr.iterAt W.heap.size s (p + (Utf8.decode s p).2) := ⟨_, rfl⟩
      rw [← hW1] at hnx hit2 hJ1
      obtain ⟨fn, tmps, assign, body, hy, hR⟩ := (hY _ _ _ hJ1).2 hp
      clear hW1 hit
      gi_wp2
      refine hR.mono ?_
      rintro e W3 ⟨hsame, ⟨rfl, hJ3⟩ | ⟨rfl, hJx3⟩⟩
      · have hit3 := (hsame W.heap.size (by simp)).trans hit2
        gi_wp2
        go_roundw
        case rel => exact ⟨p + (Utf8.decode s p).2, hit3, hJ3⟩
        case measure =>
          rw [iterPos_of hit3, hpos0]
          have := width_pos1 s p
          omega
      · gi_wp2
        refine bodyPost_ret (results_none rfl _ _ _) rfl ?_
        exact ⟨⟨_, rfl⟩, .inl hJx3⟩
    · have hnx : ∀ ty, (Instr.next (.pointer (some ⟨W.heap.size, 0, none⟩)) true ty).run Tryd.prog wr = _ := fun ty => Lib.run_next_end_at wr W.heap.size s p ty hit hp
      have hd := (hY _ _ _ hJ).1 (by omega)
      gi_wp2
      go_end0
      exact ⟨⟨_, rfl⟩, .inr hd⟩

theorem each1_ok : IterOk Tryd.prog 15 itEach := by
  refine ⟨fun args w => callFunc_enter (U0_ok []) (f := 15) (fn := Tryd.f15) (by kernel_rfl) args w, ?_⟩
  intro l dep B lb lb' J Jx Done st m h w H hlb est h0 hstep hA hT
  have hst : ∃ v a x, lb = [v] ∧ v = .pointer (some a) ∧ h.cell? a.block a.off = some (.string x) ∧ st = [.string x, .int .i64 0] := by
    unfold itEach at est
    simp only at est
    split at est
    · rename_i v
      obtain ⟨p, ep, e1⟩ := ob_eq est
      obtain ⟨a, ea, e2⟩ := ob_eq e1
      obtain ⟨c, ec, e3⟩ := ob_eq e2
      simp only [asLK] at e3
      obtain ⟨x, ex, e4⟩ := ob_eq e3
      exact ⟨v, a, x, rfl, by rw [ptr?_eq ep, ea], by rw [ec, str?_eq ex], by cases e4; rfl⟩
    · cases est
  obtain ⟨v, a, s, rfl, rfl, hcell, rfl⟩ := hst
  obtain ⟨v', e1, e2⟩ := hlb.get (i := 0) rfl
  have hl1 : lb' = [v'] := by
    cases lb' with
    | nil => cases e1
    | cons x r =>
      cases r with
      | nil => cases e1; rfl
      | cons y r => have := hlb.1; simp at this
  subst hl1
  obtain ⟨hsp, rf, hr, rfl⟩ := e2.ptr_inv
  obtain ⟨u, hu, hvu⟩ := H.cell hr hcell
  rw [hvu.string_inv] at hu
  have main := each1_in Fence.wide 1 trivial rfl (Nat.le_refl 1) l _ s (fun O p W => J O [.string s, .int .i64 (p : Nat)] W) Jx Done ?_ (fun O p W ob hj => hA O _ W ob hj) (fun O p W r ob hj hr => hT O _ W r ob hj hr) w hu (by simpa using h0)
  · exact ⟨trivial, fun cs hroom => main.2 cs (room_wide _)⟩
  · intro O p W hJ
    obtain ⟨m2, h2, H2, hl2, x, ex, hn, hs⟩ := hstep O _ W hJ
    simp only [itEach, Int.toNat_natCast] at ex
    refine ⟨fun hle => ?_, fun hlt => ?_⟩
    · rw [Nat.ble_eq_true_of_le hle] at ex
      exact hn (by cases ex; rfl)
    · have hb : Nat.ble s.size p = false := by
        cases hb : Nat.ble s.size p with
        | false => rfl
        | true => have := Nat.le_of_ble_eq_true hb; omega
      rw [hb] at ex
      have := hs _ _ (by cases ex; rfl) [.int .i64 (p : Nat), .int .i32 (Utf8.decode s p).1] (LRel.cons (.int _ _) (LRel.cons (.int _ _) (LRel.nil m2))) 0
      simpa using this

/-- The table, with 'live' told from outside. -/
noncomputable def UE : Env := { U0 [(4, ())] with it := PT.ofList [(15, itEach)] }
theorem UE_ok : UE.Ok Tryd.prog 2 := ⟨(U0_ok [(4, ())]).ti, (U0_ok [(4, ())]).fn, (U0_ok [(4, ())]).mixed⟩
theorem UE_its : ItsOk Tryd.prog UE := fun f it e => by
  have := PT.get_ofList (show (PT.ofList [(15, itEach)]).get f = some it from e)
  simp only [List.mem_singleton, Prod.mk.injEq] at this
  obtain ⟨rfl, rfl⟩ := this
  exact each1_ok
end Go.Amb
