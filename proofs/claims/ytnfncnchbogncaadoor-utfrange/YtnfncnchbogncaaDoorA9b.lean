/- Part of the proof by the abstract machine: no claim of its own. -/
import Derived.Test.YtnfncnchbogncaaDoorA9
set_option linter.unusedSimpArgs false
set_option linter.unusedVariables false
set_option linter.unnecessarySimpa false
set_option linter.unusedSectionVars false
/- The abstract machine, part 9b: cutting. -/
set_option linter.unusedVariables false
namespace Go.Amb
open Go.RowKit

section
variable {P : Program} {E : Env} {G nt : Nat} {B : Kept}
variable {m : MP} {h : AHeap} {w : World} {tm : PT Value} {a : Act} {call : Call} {k kp : KV} {r : Ans}

theorem op_slice (hE : E.Ok P G) (hG : ∀ i, i < G → B.old i) (H : HRel B m h w) (T : TRel nt m tm a) {t : TypeId} {x : Operand} {lo hi mx : Option Operand} {o : Oper} (ho : o.op = .slice t x lo hi mx) (hx : xOk nt G x = true)
    (hlo : ∀ y, lo = some y → xOk nt G y = true) (hhi : ∀ y, hi = some y → xOk nt G y = true) (hmx : ∀ y, mx = some y → xOk nt G y = true)
    (e : evOp E call o.op tm h k kp = some r) : OpRes P B m h w (execOp a.eval o) k r := by
  rw [ho] at e
  obtain ⟨i, ei, e⟩ := ob_eq e
  have hi0 := hE.ti t i ei
  have hu := run_under hi0 w
  have hv := T.opnd H hG hx
  have r1 := ORelV.map hG H T hlo
  have r2 := ORelV.map hG H T hhi
  have r3 := ORelV.map hG H T hmx
  simp only [execOp, ho]
  split at e
  · rename_i s hd hs
    rw [hs] at hv
    have hv := hv.string_inv
    rw [hd] at hu
    split at e
    · obtain ⟨b, eb, e⟩ := ob_eq e
      obtain ⟨c', h1, h2, h3, h4, _⟩ := slcB_run (P := P) (w := w) (isS := false) (Nat.le_refl _) (Nat.le_refl _) eb r1 r2 (mx' := none) ⟨(fun v h => by cases h), fun _ => rfl⟩
      refine OpRes.mk e (Gr.refl h m) H (.string _) (Bel.refl B w) ?_
      simp [Instr.sliceAt, hu, Instr.slice, hv, h1]
    · cases e
  · rename_i el ad len cap hd hs
    obtain ⟨j, ej, e⟩ := ob_eq e
    obtain ⟨b, eb, e⟩ := ob_eq e
    have hj := hE.ti _ j ej
    rw [hd] at hu
    rw [hs] at hv
    cases ad with
    | none =>
      obtain ⟨z1, z2, hv⟩ := hv.nilSlice_inv
      rw [z1, z2] at eb
      obtain ⟨c', h1, h2, h3, h4, h5⟩ := slcB_run (P := P) (w := w) (isS := true) (Nat.le_refl 0) (Nat.le_refl _) eb r1 r2 r3
      have hc0 : c' = 0 := by omega
      have e2 : b.2.1 - b.1 = 0 := by omega
      have e3 : b.2.2 - b.1 = 0 := by omega
      simp only [e2, e3] at e
      refine OpRes.mk e (Gr.refl h m) H .nilSlice (Bel.refl B w) ?_
      simp [Instr.sliceAt, hu, Instr.slice, hv, h1, run_sizeOf hj, hc0]
      omega
    | some ad =>
      rcases hv.slice_inv with ⟨hsp, hlc, rf, y, cap', hr, hv, hcc, hy⟩ | ⟨hsp, hl0, hc0, ad', hvv⟩
      rotate_left
      · have e9 := e
        subst hl0 hc0
        obtain ⟨c', h1, h2, h3, h4, h5⟩ := slcB_run (P := P) (w := w) (isS := true) (Nat.le_refl 0) (Nat.le_refl 0) eb r1 r2 r3
        have z1 : b.1 = 0 := by omega
        have z2 : b.2.1 = 0 := by omega
        have z3 : b.2.2 = 0 := by omega
        have z4 : c' = 0 := by omega
        simp only at e9
        split at e9
        · refine OpRes.mk e9 (Gr.refl h m) H (v' := .slice (some ad') 0 0) (by rw [z1, z2, z3, hsp.2]; exact .slice0 ad') (Bel.refl B w) ?_
          simp only [Instr.sliceAt, Sem.run_bind, hu, Result.andThen_ok, Instr.slice, hvv, h1, run_sizeOf hj, Sem.run_pure]
          simp [z1, z2, z4]
        · cases e9
      have hcap : cap ≤ cap' := by rcases hcc with h1 | ⟨h1, _⟩ <;> omega
      obtain ⟨c', h1, h2, h3, h4, h5⟩ := slcB_run (P := P) (w := w) (isS := true) hcap hlc eb r1 r2 r3
      simp only at e
      split at e
      · rename_i hsz
        have hrun : (Instr.sliceAt t (a.eval x) (lo.map a.eval) (hi.map a.eval) (mx.map a.eval)).run P w =
            .ok (.slice (some (if c' = b.1 then (⟨rf.b, y, none⟩ : Addr) else ⟨rf.b, y + b.1 * j.lk.length, none⟩)) (b.2.1 - b.1) (c' - b.1)) w := by
          simp only [Instr.sliceAt, Sem.run_bind, hu, Result.andThen_ok, Instr.slice, hv, h1, run_sizeOf hj, Sem.run_pure]
          by_cases hcb : c' = b.1
          · simp [hcb]
          · simp [hcb, add_none]
        have hpos : b.1 < c' → y = rf.o + ad.off := by
          intro hlt
          rcases hy with hy | hy
          · exact hy
          · omega
        have hrel : VRel m (.slice (some ⟨ad.block, ad.off + b.1 * j.lk.length, none⟩) (b.2.1 - b.1) (b.2.2 - b.1))
            (.slice (some ⟨rf.b, if c' = b.1 then y else y + b.1 * j.lk.length, none⟩) (b.2.1 - b.1) (c' - b.1)) := by
          refine .slice hr (by omega) ?_ ?_
          · rcases h5 with ⟨g1, g2⟩ | g1
            · subst g1
              rw [g2]
              rcases hcc with g3 | ⟨g3, s, g4, g5, g6⟩
              · left; omega
              · right
                have hs2 : s = j.lk.length := by
                  have hob := H.obj _ _ hr
                  unfold AHeap.szOk at hsz
                  split at hsz
                  · rename_i hg; rw [hg] at hob; obtain ⟨_, q2, _⟩ := hob; rw [q2] at g4; cases g4
                  · rename_i hg; rw [hg] at hob; obtain ⟨_, q2, _⟩ := hob
                    rw [q2] at g4
                    simp only [Option.some.injEq] at g4
                    subst g4
                    exact Nat.eq_of_beq_eq_true hsz
                  · cases hsz
                refine ⟨by omega, s, g4, ?_, ?_⟩
                · subst hs2
                  rw [← g5, Nat.add_assoc, ← Nat.add_mul]
                  congr 2
                  omega
                · subst hs2
                  have e1 : b.1 * j.lk.length + (c' - b.1) * j.lk.length = c' * j.lk.length := by rw [← Nat.add_mul]; congr 1; omega
                  omega
            · left; omega
          · by_cases hcb : c' = b.1
            · right; omega
            · left
              rw [if_neg hcb, hpos (by omega)]
              omega
        refine OpRes.mk e (Gr.refl h m) H hrel (Bel.refl B w) ?_
        rw [hrun]
        by_cases hcb : c' = b.1 <;> simp [hcb]
      · cases e
  · cases e

end
end Go.Amb
