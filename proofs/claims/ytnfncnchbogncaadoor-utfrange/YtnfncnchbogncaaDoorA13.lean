/- Part of the proof by the abstract machine: no claim of its own. -/
import Derived.Test.YtnfncnchbogncaaDoorA12
import Derived.Test.YtnfncnchbogncaaDoorA11
set_option linter.unusedSimpArgs false
set_option linter.unusedVariables false
set_option linter.unnecessarySimpa false
set_option linter.unusedSectionVars false
/- The abstract machine, part 13: the builtins as operations; maps. -/
set_option linter.unusedVariables false
namespace Go.Amb
open Go.RowKit

theorem st_nil {h h2 : AHeap} {i o : Nat} (e : h.st i o [] = some h2) : ∀ j, h2.get j = h.get j := by
  unfold AHeap.st at e
  split at e
  · rename_i l el opn hg
    split at e
    · rename_i hle _
      cases e
      intro j
      have hle := Nat.le_of_ble_eq_true hle
      rw [AHeap.get_set]
      split
      · rename_i hj
        rw [hj, hg]
        congr 1
        have key : ∀ (l : List Value) (o : Nat), o ≤ l.length → putL l o [] = l := by
          intro l
          induction l with
          | nil => intro o ho; cases o <;> rfl
          | cons x l ih => intro o ho; cases o with
            | zero => rfl
            | succ o => simp only [putL]; rw [ih o (by simpa using ho)]
        exact key l o (by simpa using hle)
      · rfl
    · cases e
  · cases e
theorem HRel.congr {B : Kept} {m : MP} {h h2 : AHeap} {w : World} (H : HRel B m h w) (hg : ∀ j, h2.get j = h.get j) (hn : h2.next = h.next) : HRel B m h2 w :=
  ⟨fun i r hi => by rw [hg]; exact H.obj i r hi, fun i j a b hi hj hab hB h1 h2' => H.one i j a b hi hj hab hB (by rw [← hg]; exact h1) (by rw [← hg]; exact h2'), fun i r hi => by rw [hn]; exact H.dom i r hi, H.size, H.old, by rw [hn]; exact H.zed, H.own⟩

section
variable {P : Program} {E : Env} {G nt : Nat} {B : Kept}
variable {m : MP} {h : AHeap} {w : World} {tm : PT Value} {a : Act} {call : Call} {k kp : KV} {r : Ans}

theorem one_arg {f : Operand → Value} {xs : List Operand} {x : Value} (h : xs.map f = [x]) : ∃ p, xs = [p] ∧ f p = x := by
  cases xs with
  | nil => cases h
  | cons p r => cases r with
    | nil => simp at h; exact ⟨p, rfl, h⟩
    | cons q r => simp at h
theorem two_args {f : Operand → Value} {xs : List Operand} {x y : Value} (h : xs.map f = [x, y]) : ∃ p q, xs = [p, q] ∧ f p = x ∧ f q = y := by
  cases xs with
  | nil => cases h
  | cons p r => cases r with
    | nil => simp at h
    | cons q r => cases r with
      | nil => simp at h; exact ⟨p, q, rfl, h.1, h.2⟩
      | cons z r => simp at h
theorem arr1 {α : Type} {x : Array α} {p : α} (h : x.toList = [p]) : x = #[p] := Array.ext' h
theorem arr2 {α : Type} {x : Array α} {p q : α} (h : x.toList = [p, q]) : x = #[p, q] := Array.ext' h

theorem op_builtin (hE : E.Ok P G) (hG : ∀ i, i < G → B.old i) (H : HRel B m h w) (T : TRel nt m tm a) {c : Go.Call} {b : Builtin} {o : Oper} (ho : o.op = .call c) (hc : c.callee = .builtin b) (hx : c.args.toList.all (xOk nt G) = true)
    (e : evOp E call o.op tm h k kp = some r) : OpRes P B m h w (execOp a.eval o) k r := by
  rw [ho] at e
  simp only [evOp, opCall, hc] at e
  have hrun : execOp a.eval o = (do let d ← resolve a.eval c o.type; invoke d.target d.args) := by simp only [execOp, ho]
  rw [hrun]
  have hres : ∀ s : Sem Next, OpRes P B m h w s k r → s = builtin b c.argTypes o.type (c.args.map fun | .const _ => true | _ => false) (c.args.map a.eval) → OpRes P B m h w (do let d ← resolve a.eval c o.type; invoke d.target d.args) k r := by
    intro s hs heq
    have : (do let d ← resolve a.eval c o.type; invoke d.target d.args) = builtin b c.argTypes o.type (c.args.map fun | .const _ => true | _ => false) (c.args.map a.eval) := by
      unfold resolve
      rw [hc]
      rfl
    rw [this, ← heq]
    exact hs
  unfold evBuiltin at e
  split at e
  · -- len
    rename_i t x hts hargs
    obtain ⟨i, ei, e0⟩ := ob_eq e
    clear e
    have e := e0
    clear e0
    have hi := hE.ti t i ei
    have hu := run_under hi w
    obtain ⟨p, hp, hpx⟩ := one_arg hargs
    have hxs := arr1 hp
    have htt := arr1 hts
    have hv : VRel m x (a.eval p) := by rw [← hpx]; exact T.opnd H hG (by rw [hp] at hx; simpa using hx)
    refine hres (do pure (.value (← Builtin.len_ c.argTypes o.type (c.args.map a.eval)))) ?_ rfl
    rw [hxs, htt]
    split at e
    · rename_i s hd
      have hv := hv.string_inv
      rw [hd] at hu
      refine OpRes.mk e (Gr.refl h m) H (.int _ _) (Bel.refl B w) ?_
      simp [Builtin.len_, hu, hv, goInt]
    · rename_i _ ad n cp hd
      rw [hd] at hu
      have hform : ∃ ad' c', a.eval p = .slice ad' n c' := by
        cases ad with
        | none => obtain ⟨h1, _, h2⟩ := hv.nilSlice_inv; exact ⟨_, _, by rw [h2, h1]⟩
        | some ad =>
          rcases hv.slice_inv with ⟨_, _, _, _, _, _, h2, _⟩ | ⟨_, hl0, _, _, h2⟩
          · exact ⟨_, _, h2⟩
          · exact ⟨_, _, by rw [h2, hl0]⟩
      obtain ⟨ad', c', h2⟩ := hform
      refine OpRes.mk e (Gr.refl h m) H (.int _ _) (Bel.refl B w) ?_
      simp [Builtin.len_, hu, h2, goInt]
    · rename_i hd
      rw [hd] at hu
      have h2 : a.eval p = .map none := by generalize a.eval p = q at hv; cases hv; rfl
      refine OpRes.mk e (Gr.refl h m) H (.int _ _) (Bel.refl B w) ?_
      simp [Builtin.len_, hu, h2, goInt]
    · rename_i rr hd
      rw [hd] at hu
      obtain ⟨kv, ekv, e0⟩ := ob_eq e
      clear e
      have e := e0
      clear e0
      obtain ⟨rf, hr, h2⟩ := hv.map_inv
      have hob := H.obj _ _ hr
      unfold AHeap.map? at ekv
      split at ekv
      · rename_i kv' hg
        simp only [Option.some.injEq] at ekv
        subst ekv
        rw [hg] at hob
        obtain ⟨hB, es, cl, h3, h4, h5⟩ := hob
        refine OpRes.mk e (Gr.refl h m) H (v' := goInt es.size) (by rw [h4]; exact .int _ _) (Bel.refl B w) ?_
        have hgo : (getObj rf.b).run P w = .ok (.map es cl) w := by simp [getObj, Sem.run, h3]
        simp [Builtin.len_, hu, h2, hgo]
      · cases ekv
    · cases e
  · -- append
    rename_i t t2 s x hts hargs
    obtain ⟨i, ei, e0⟩ := ob_eq e
    clear e
    have e := e0
    clear e0
    obtain ⟨i2, ei2, e0⟩ := ob_eq e
    clear e
    have e := e0
    clear e0
    have hi := hE.ti t i ei
    have hi2 := hE.ti t2 i2 ei2
    obtain ⟨p, q, hp, hps, hqx⟩ := two_args hargs
    have hxs := arr2 hp
    have htt := arr2 hts
    rw [hp] at hx
    simp at hx
    have hvs : VRel m s (a.eval p) := by rw [← hps]; exact T.opnd H hG hx.1
    have hvx : VRel m x (a.eval q) := by rw [← hqx]; exact T.opnd H hG hx.2
    refine hres (do pure (.value (← Builtin.append_ c.argTypes o.type (c.args.map a.eval)))) ?_ rfl
    rw [hxs, htt]
    have fin : ∀ {el : TypeId}, i.d = .slice el → (∀ kd, i2.d ≠ .int kd) → (ob (E.ti.get el) fun j => ob (slc? s) fun sl => ob (srcOf h j.lk.length x) fun p =>
        ob (h.app el j.lk.length j.bytes sl p.1 p.2) fun q => k (.slice q.1.a q.1.len q.1.cap) q.2) = some r →
        OpRes P B m h w (do pure (.value (← Builtin.append_ #[t, t2] o.type ((#[p, q] : Array Operand).map a.eval)))) k r := by
      intro el hd hd2 e
      obtain ⟨j, ej, e0⟩ := ob_eq e
      clear e
      have e := e0
      clear e0
      obtain ⟨sl, es, e0⟩ := ob_eq e
      clear e
      have e := e0
      clear e0
      obtain ⟨src, esrc, e0⟩ := ob_eq e
      clear e
      have e := e0
      clear e0
      obtain ⟨res, eres, e0⟩ := ob_eq e
      clear e
      have e := e0
      clear e0
      have hj := hE.ti _ j ej
      obtain ⟨n, vs⟩ := src
      obtain ⟨q', h'⟩ := res
      rw [slc?_eq es] at hvs
      obtain ⟨vs', hL, hlen, hn, hnews⟩ := src_run (P := P) H esrc hvx
      obtain ⟨v', m', w', g1, g2, g3, g4, g5⟩ := app_run (ty := o.type) (by rw [hi.d, hd]) ⟨i2.d, hi2.d, hd2⟩ hj H eres hvs hL hlen hn hnews
      refine OpRes.mk e g1 g2 g3 g4 ?_
      simpa using g5
    split at e
    · rename_i el _ hd hd2
      exact fin hd (by rw [hd2]; intro kd; simp) e
    · rename_i el hd hd2
      exact fin hd (by rw [hd2]; intro kd; simp) e
    · cases e
  · -- min
    rename_i kx n ky q hargs
    obtain ⟨p1, p2, hp, hp1, hp2⟩ := two_args hargs
    have hxs := arr2 hp
    rw [hp] at hx
    simp at hx
    have h1 : VRel m (.int kx n) (a.eval p1) := by rw [← hp1]; exact T.opnd H hG hx.1
    have h2 : VRel m (.int ky q) (a.eval p2) := by rw [← hp2]; exact T.opnd H hG hx.2
    have h1 := h1.int_inv
    have h2 := h2.int_inv
    refine hres (do pure (.value (← Builtin.min_ c.argTypes o.type (c.args.map a.eval)))) ?_ rfl
    rw [hxs]
    refine OpRes.mk e (Gr.refl h m) H (.int _ _) (Bel.refl B w) ?_
    simp [Builtin.min_, Builtin.min2, h1, h2]
  · -- max
    rename_i kx n ky q hargs
    obtain ⟨p1, p2, hp, hp1, hp2⟩ := two_args hargs
    have hxs := arr2 hp
    rw [hp] at hx
    simp at hx
    have h1 : VRel m (.int kx n) (a.eval p1) := by rw [← hp1]; exact T.opnd H hG hx.1
    have h2 : VRel m (.int ky q) (a.eval p2) := by rw [← hp2]; exact T.opnd H hG hx.2
    have h1 := h1.int_inv
    have h2 := h2.int_inv
    refine hres (do pure (.value (← Builtin.max_ c.argTypes o.type (c.args.map a.eval)))) ?_ rfl
    rw [hxs]
    refine OpRes.mk e (Gr.refl h m) H (.int _ _) (Bel.refl B w) ?_
    simp [Builtin.max_, Builtin.max2, h1, h2]
  · -- copy
    rename_i t t2 d s hts hargs
    obtain ⟨i, ei, e0⟩ := ob_eq e
    clear e
    have e := e0
    clear e0
    have hi := hE.ti t i ei
    have hu := run_under hi w
    obtain ⟨p, q, hp, hpd, hqs⟩ := two_args hargs
    have hxs := arr2 hp
    have htt := arr2 hts
    rw [hp] at hx
    simp at hx
    have hvd : VRel m d (a.eval p) := by rw [← hpd]; exact T.opnd H hG hx.1
    have hvs : VRel m s (a.eval q) := by rw [← hqs]; exact T.opnd H hG hx.2
    refine hres (do pure (.value (← Builtin.copy_ c.argTypes o.type (c.args.map a.eval)))) ?_ rfl
    rw [hxs, htt]
    split at e
    · rename_i el hd
      obtain ⟨j, ej, e0⟩ := ob_eq e
      clear e
      have e := e0
      clear e0
      obtain ⟨dl, ed, e0⟩ := ob_eq e
      clear e
      have e := e0
      clear e0
      obtain ⟨src, esrc, e0⟩ := ob_eq e
      clear e
      have e := e0
      clear e0
      have hj := hE.ti _ j ej
      obtain ⟨n, vs⟩ := src
      rw [slc?_eq ed] at hvd
      rw [hd] at hu
      obtain ⟨vs', hL, hlen, hn, hnews⟩ := src_run (P := P) H esrc hvs
      have hN := hnews w rfl
      split at e
      · rename_i hle hda
        have hle := Nat.le_of_ble_eq_true hle
        rw [hda] at hvd
        obtain ⟨z1, z2, h1⟩ := hvd.nilSlice_inv
        have hn0 : n = 0 := by simp only at hle; omega
        subst hn0
        refine OpRes.mk e (Gr.refl h m) H (.int _ _) (Bel.refl B w) ?_
        simp [Builtin.copy_, hu, h1, hn, run_sizeOf hj, hN, goInt]
      · rename_i ad hle hda
        have hle := Nat.le_of_ble_eq_true hle
        rw [hda] at hvd
        obtain ⟨h2, e2, e0⟩ := ob_eq e
        rcases hvd.slice_inv with ⟨hsp, hlc, rf, y, c', hr, h1, hcc, hy⟩ | ⟨hsp, hl0, hc0, ad', h1⟩
        rotate_left
        · have hn0 : n = 0 := by omega
          subst hn0
          have hvs0 : vs = [] := List.eq_nil_of_length_eq_zero (by simpa using hlen)
          subst hvs0
          have hh2 := st_nil e2
          refine OpRes.mk e0 (Gr.keep (st_next e2)) (H.congr hh2 (st_next e2)) (.int _ _) (Bel.refl B w) ?_
          have hvs' : vs' = [] := List.eq_nil_of_length_eq_zero (by rw [← hL.1]; rfl)
          subst hvs'
          simp [Builtin.copy_, hu, h1, hn, run_sizeOf hj, hN, goInt, storeCells]
        clear e
        have e := e0
        clear e0
        have hmin : Nat.min n dl.len = n := Nat.min_eq_left hle
        by_cases hv0 : vs.length = 0
        · have hvs0 : vs = [] := List.eq_nil_of_length_eq_zero hv0
          have hvs0' : vs' = [] := List.eq_nil_of_length_eq_zero (by rw [← hL.1, hv0])
          obtain ⟨w', hst, H', hb⟩ := H.st (P := P) hr e2 hL
          subst hvs0'
          simp only [storeCells, Sem.run_pure, Result.ok.injEq, true_and] at hst
          subst hst
          refine OpRes.mk e (Gr.keep (st_next e2)) H' (.int _ _) hb ?_
          simp [Builtin.copy_, hu, h1, hn, run_sizeOf hj, hmin, hN, goInt, storeCells]
        · have hn0 : 0 < n := by
            rcases Nat.eq_zero_or_pos n with g | g
            · exact absurd (by rw [hlen, g]; simp) hv0
            · exact g
          have hy' : y = rf.o + ad.off := by
            rcases hy with hy | hy
            · exact hy
            · rcases hcc with g | ⟨g, _⟩ <;> omega
          subst hy'
          obtain ⟨w', hst, H', hb⟩ := H.st (P := P) hr e2 hL
          refine OpRes.mk e (Gr.keep (st_next e2)) H' (.int _ _) hb ?_
          simp [Builtin.copy_, hu, h1, hn, run_sizeOf hj, hmin, hN, goInt, hst]
      · cases e
    · cases e
  · cases e

end
end Go.Amb
