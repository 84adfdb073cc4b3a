/- strings.Join for the abstract machine. -/
import Derived.Test.YtnfncnchbogncaaJ1
import Derived.Test.YtnfncnchbogncaaA21
set_option linter.unusedVariables false
namespace Go.Amb
open Go.RowKit Go.Proofs

def strs : List Value → Option (List ByteArray)
  | [] => some []
  | .string s :: r => ob (strs r) fun t => some (s :: t)
  | _ :: _ => none
def joinV (args : List Value) (h : AHeap) : Option Ans := match args with
  | [.slice (some a) n _, .string sep] => ob (h.row? a.block a.off n) fun l => ob (strs l) fun xs => match Nat.ble n 1000000 && Nat.ble (Lib.join (xs.map (·.data.toList)) sep.data.toList).length 1000000 with
    | true => some (.ret (.string ⟨(Lib.join (xs.map (·.data.toList)) sep.data.toList).toArray⟩) h)
    | false => none
  | [.slice none _ _, .string sep] => some (.ret (.string ⟨#[]⟩) h)
  | _ => none

theorem strs_eq : ∀ {l : List Value} {xs : List ByteArray}, strs l = some xs → l = xs.map Value.string := by
  intro l
  induction l with
  | nil => intro xs e; cases e; rfl
  | cons v l ih =>
    intro xs e
    unfold strs at e
    split at e
    · rename_i h; cases h
    · rename_i s r h
      cases h
      obtain ⟨t, et, e1⟩ := ob_eq e
      cases e1
      rw [List.map_cons, ih et]
    · cases e

/-- Where nothing that was there has turned. -/
theorem HRel.below {B : Nat} {m : MP} {h : AHeap} {w w' : World} (H : HRel B m h w) (hb : Below w.heap.size w w') : HRel B m h w' :=
  ⟨fun i r e => (H.obj i r e).of_block (MP.le_refl m) (hb.block _ (H.dom i r e).2), H.one, fun i r e => ⟨(H.dom i r e).1, Nat.lt_of_lt_of_le (H.dom i r e).2 hb.size⟩, Nat.le_trans H.size hb.size, H.old⟩

theorem join_ok {B : Nat} {m : MP} {h : AHeap} {w : World} {args args' : List Value} {r : Ans} (e : joinV args h = some r) (H : HRel B m h w) (hl : LRel m args args') : Calls Try.prog 146 args'.toArray w (Post B m h w r) := by
  unfold joinV at e
  split at e
  · rename_i a n c sep
    obtain ⟨l, el, e1⟩ := ob_eq e
    obtain ⟨xs, ex, e2⟩ := ob_eq e1
    split at e2
    · rename_i hle
      cases e2
      rw [Bool.and_eq_true] at hle
      have hn := Nat.le_of_ble_eq_true hle.1
      have hj := Nat.le_of_ble_eq_true hle.2
      have hlx := strs_eq ex
      obtain ⟨hlen, hcell⟩ := row?_eq el
      have hxl : xs.length = n := by rw [← hlen, hlx, List.length_map]
      -- the arguments
      obtain ⟨v1, g1, hv1⟩ := hl.get (i := 0) (v := .slice (some a) n c) rfl
      obtain ⟨v2, g2, hv2⟩ := hl.get (i := 1) (v := .string sep) rfl
      have hargs : args' = [v1, v2] := by
        have := hl.1
        match args', this, g1, g2 with
        | [x, y], _, g1, g2 => simp at g1 g2; rw [g1, g2]
      rw [hargs]
      obtain ⟨hsp, hlc, rf, y, c', hm, rfl, hc, hy⟩ := hv1.slice_inv
      rw [hv2.string_inv]
      have hcc : n ≤ c' := by rcases hc with rfl | ⟨h1, _⟩ <;> omega
      by_cases hz : xs = []
      · subst hz
        simp only [List.length_nil] at hxl
        subst hxl
        refine Calls.mono (Try.strings_Join_none (some ⟨rf.b, y, none⟩) c' sep w) fun e w' ⟨he, hw⟩ => ?_
        subst he hw
        exact ⟨m, Gr.refl h m, H, VRel.string _, Below.refl _ _⟩
      · have hpos : 0 < xs.length := List.length_pos_iff.2 hz
        have hy' : y = rf.o + a.off := by rcases hy with h | h <;> omega
        subst hy'
        have hcells : ∀ (j : Nat) x, xs[j]? = some x → w.cell? ⟨rf.b, rf.o + a.off + j, none⟩ = some (.string x) := by
          intro j x hx
          have h1 := hcell j (.string x) (by rw [hlx, List.getElem?_map, hx]; rfl)
          obtain ⟨v', h2, h3⟩ := H.cell hm h1
          rw [h3.string_inv] at h2
          rw [← h2]
          congr 2
          omega
        have := Try.strings_Join rf.b (rf.o + a.off) c' xs sep w hcells (H.dom _ _ hm).2 (by omega) (by omega) (by omega)
        rw [hxl] at this
        refine Calls.mono this fun e w' ⟨he, hb⟩ => ?_
        subst he
        exact ⟨m, Gr.refl h m, H.below hb, VRel.string _, hb.mono H.size⟩
    · cases e2
  · rename_i n c sep
    cases e
    obtain ⟨v1, g1, hv1⟩ := hl.get (i := 0) (v := .slice none n c) rfl
    obtain ⟨v2, g2, hv2⟩ := hl.get (i := 1) (v := .string sep) rfl
    have hargs : args' = [v1, v2] := by
      have := hl.1
      match args', this, g1, g2 with
      | [x, y], _, g1, g2 => simp at g1 g2; rw [g1, g2]
    rw [hargs]
    obtain ⟨_, _, rfl⟩ := hv1.nilSlice_inv
    rw [hv2.string_inv]
    refine Calls.mono (Try.strings_Join_none none 0 sep w) fun e w' ⟨he, hw⟩ => ?_
    subst he hw
    exact ⟨m, Gr.refl h m, H, VRel.string _, Below.refl _ _⟩
  · cases e
end Go.Amb
