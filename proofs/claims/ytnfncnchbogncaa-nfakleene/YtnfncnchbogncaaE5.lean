/- Part of the proof by the abstract machine: no claim of its own. -/
import Derived.Test.YtnfncnchbogncaaD2
set_option linter.unusedSimpArgs false
set_option linter.unusedVariables false
set_option linter.unnecessarySimpa false
set_option linter.unusedSectionVars false
/- The machine by words: for the kernel. -/
set_option linter.unusedVariables false
set_option maxRecDepth 100000
namespace Go.Amb
theorem beqF {a b : Nat} (h : a ≠ b) : Nat.beq a b = false := by
  cases e : Nat.beq a b with
  | false => rfl
  | true => exact absurd (Nat.eq_of_beq_eq_true e) h
noncomputable def wv (X : Call) : Nat → Call
  | 0, _, _, _ => none
  | n + 1, f, args, h => cond (Nat.beq f 137) (g137 (wv X n) n (st0 args) h (finS EK [.tmp 4])) (
    cond (Nat.beq f 151) (g151 (wv X n) n (st0 args) h (finS EK [.tmp 2])) (
    cond (Nat.beq f 73) (g73 (wv X n) n (st0 args) h (finS EK [.tmp 4])) (
    cond (Nat.beq f 112) (g112 (wv X n) n (st0 args) h (finS EK [.tmp 2])) (
    cond (Nat.beq f 113) (g113 (wv X n) n (st0 args) h (finS EK [.tmp 4, .tmp 5])) (
    cond (Nat.beq f 74) (g74 (wv X n) n (st0 args) h (finS EK [.tmp 6])) (
    cond (Nat.beq f 111) (g111 (wv X n) n (st0 args) h (finS EK [])) (
    cond (Nat.beq f 108) (g108 (wv X n) n (st0 args) h (finS EK [.tmp 4])) (
    cond (Nat.beq f 136) (g136 (wv X n) n (st0 args) h (finS EK [.tmp 4])) (
    cond (Nat.beq f 105) (g105 (wv X n) n (st0 args) h (finS EK [.tmp 4])) (
    cond (Nat.beq f 135) (g135 (wv X n) n (st0 args) h (finS EK [.tmp 4])) (
    cond (Nat.beq f 109) (g109 (wv X n) n (st0 args) h (finS EK [.tmp 3])) (
    cond (Nat.beq f 70) (g70 (wv X n) n (st0 args) h (finS EK [.tmp 4])) (
    cond (Nat.beq f 110) (g110 (wv X n) n (st0 args) h (finS EK [.tmp 4])) (
    cond (Nat.beq f 158) (g158 (wv X n) n (st0 args) h (finS EK [.tmp 3])) (
    cond (Nat.beq f 67) (g67 (wv X n) n (st0 args) h (finS EK [.tmp 2, .tmp 3])) (
    cond (Nat.beq f 106) (g106 (wv X n) n (st0 args) h (finS EK [.tmp 3])) (
    cond (Nat.beq f 107) (g107 (wv X n) n (st0 args) h (finS EK [.tmp 4])) (
    cond (Nat.beq f 72) (g72 (wv X n) n (st0 args) h (finS EK [.tmp 2])) (
    cond (Nat.beq f 134) (g134 (wv X n) n (st0 args) h (finS EK [])) (
    cond (Nat.beq f 150) (g150 (wv X n) n (st0 args) h (finS EK [.tmp 4])) (
    cond (Nat.beq f 28) (g28 (wv X n) n (st0 args) h (finS EK [.cell 2 67, .tmp 3])) (
    cond (Nat.beq f 30) (g30 (wv X n) n (st0 args) h (finS EK [.tmp 2])) (
    cond (Nat.beq f 35) (g35 (wv X n) n (st0 args) h (finS EK [.tmp 4])) (
    cond (Nat.beq f 38) (g38 (wv X n) n (st0 args) h (finS EK [.tmp 6])) (
    cond (Nat.beq f 54) (g54 (wv X n) n (st0 args) h (finS EK [.tmp 2])) (
    cond (Nat.beq f 55) (g55 (wv X n) n (st0 args) h (finS EK [.tmp 4])) (
    cond (Nat.beq f 56) (g56 (wv X n) n (st0 args) h (finS EK [.tmp 1])) (
    cond (Nat.beq f 57) (g57 (wv X n) n (st0 args) h (finS EK [])) (
    cond (Nat.beq f 58) (g58 (wv X n) n (st0 args) h (finS EK [.tmp 5, .tmp 6])) (
    cond (Nat.beq f 59) (g59 (wv X n) n (st0 args) h (finS EK [.tmp 5, .tmp 6])) (
    cond (Nat.beq f 60) (g60 (wv X n) n (st0 args) h (finS EK [.tmp 4, .tmp 5])) (
    cond (Nat.beq f 61) (g61 (wv X n) n (st0 args) h (finS EK [.tmp 8, .tmp 9])) (
    cond (Nat.beq f 62) (g62 (wv X n) n (st0 args) h (finS EK [.tmp 4])) (
    cond (Nat.beq f 65) (g65 (wv X n) n (st0 args) h (finS EK [.cell 2 64])) (
    cond (Nat.beq f 66) (g66 (wv X n) n (st0 args) h (finS EK [.tmp 6])) (
    cond (Nat.beq f 68) (g68 (wv X n) n (st0 args) h (finS EK [.tmp 6, .tmp 7])) (
    cond (Nat.beq f 69) (g69 (wv X n) n (st0 args) h (finS EK [.tmp 4])) (
    cond (Nat.beq f 97) (g97 (wv X n) n (st0 args) h (finS EK [.tmp 5])) (
    cond (Nat.beq f 98) (g98 (wv X n) n (st0 args) h (finS EK [.tmp 4])) (
    cond (Nat.beq f 99) (g99 (wv X n) n (st0 args) h (finS EK [.tmp 6, .tmp 7])) (
    cond (Nat.beq f 100) (g100 (wv X n) n (st0 args) h (finS EK [.tmp 2])) (
    cond (Nat.beq f 101) (g101 (wv X n) n (st0 args) h (finS EK [])) (
    cond (Nat.beq f 102) (g102 (wv X n) n (st0 args) h (finS EK [.tmp 4, .tmp 5])) (
    cond (Nat.beq f 103) (g103 (wv X n) n (st0 args) h (finS EK [.tmp 4])) (
    cond (Nat.beq f 104) (g104 (wv X n) n (st0 args) h (finS EK [])) (
    cond (Nat.beq f 131) (g131 (wv X n) n (st0 args) h (finS EK [.tmp 4])) (
    cond (Nat.beq f 132) (g132 (wv X n) n (st0 args) h (finS EK [.tmp 4])) (
    cond (Nat.beq f 133) (g133 (wv X n) n (st0 args) h (finS EK [.cell 2 67])) (
    cond (Nat.beq f 138) (g138 (wv X n) n (st0 args) h (finS EK [.tmp 2])) (
    evF EK X (n + 1) f args h))))))))))))))))))))))))))))))))))))))))))))))))))
theorem wv_eq (X : Call) : ∀ n, wv X n = evF EK X n := by
  intro n
  induction n with
  | zero => funext f args h; rw [wv]; rfl
  | succ n ih =>
    funext f args h
    rw [wv, ih]
    by_cases e137 : f = 137
    · subst e137; rw [Nat.beq_refl, cond_true, ← g137_eq, evF_B _ _ _ _ _ _ (by kernel_rfl)]
    rw [beqF e137, cond_false]
    by_cases e151 : f = 151
    · subst e151; rw [Nat.beq_refl, cond_true, ← g151_eq, evF_B _ _ _ _ _ _ (by kernel_rfl)]
    rw [beqF e151, cond_false]
    by_cases e73 : f = 73
    · subst e73; rw [Nat.beq_refl, cond_true, ← g73_eq, evF_B _ _ _ _ _ _ (by kernel_rfl)]
    rw [beqF e73, cond_false]
    by_cases e112 : f = 112
    · subst e112; rw [Nat.beq_refl, cond_true, ← g112_eq, evF_B _ _ _ _ _ _ (by kernel_rfl)]
    rw [beqF e112, cond_false]
    by_cases e113 : f = 113
    · subst e113; rw [Nat.beq_refl, cond_true, ← g113_eq, evF_B _ _ _ _ _ _ (by kernel_rfl)]
    rw [beqF e113, cond_false]
    by_cases e74 : f = 74
    · subst e74; rw [Nat.beq_refl, cond_true, ← g74_eq, evF_B _ _ _ _ _ _ (by kernel_rfl)]
    rw [beqF e74, cond_false]
    by_cases e111 : f = 111
    · subst e111; rw [Nat.beq_refl, cond_true, ← g111_eq, evF_B _ _ _ _ _ _ (by kernel_rfl)]
    rw [beqF e111, cond_false]
    by_cases e108 : f = 108
    · subst e108; rw [Nat.beq_refl, cond_true, ← g108_eq, evF_B _ _ _ _ _ _ (by kernel_rfl)]
    rw [beqF e108, cond_false]
    by_cases e136 : f = 136
    · subst e136; rw [Nat.beq_refl, cond_true, ← g136_eq, evF_B _ _ _ _ _ _ (by kernel_rfl)]
    rw [beqF e136, cond_false]
    by_cases e105 : f = 105
    · subst e105; rw [Nat.beq_refl, cond_true, ← g105_eq, evF_B _ _ _ _ _ _ (by kernel_rfl)]
    rw [beqF e105, cond_false]
    by_cases e135 : f = 135
    · subst e135; rw [Nat.beq_refl, cond_true, ← g135_eq, evF_B _ _ _ _ _ _ (by kernel_rfl)]
    rw [beqF e135, cond_false]
    by_cases e109 : f = 109
    · subst e109; rw [Nat.beq_refl, cond_true, ← g109_eq, evF_B _ _ _ _ _ _ (by kernel_rfl)]
    rw [beqF e109, cond_false]
    by_cases e70 : f = 70
    · subst e70; rw [Nat.beq_refl, cond_true, ← g70_eq, evF_B _ _ _ _ _ _ (by kernel_rfl)]
    rw [beqF e70, cond_false]
    by_cases e110 : f = 110
    · subst e110; rw [Nat.beq_refl, cond_true, ← g110_eq, evF_B _ _ _ _ _ _ (by kernel_rfl)]
    rw [beqF e110, cond_false]
    by_cases e158 : f = 158
    · subst e158; rw [Nat.beq_refl, cond_true, ← g158_eq, evF_B _ _ _ _ _ _ (by kernel_rfl)]
    rw [beqF e158, cond_false]
    by_cases e67 : f = 67
    · subst e67; rw [Nat.beq_refl, cond_true, ← g67_eq, evF_B _ _ _ _ _ _ (by kernel_rfl)]
    rw [beqF e67, cond_false]
    by_cases e106 : f = 106
    · subst e106; rw [Nat.beq_refl, cond_true, ← g106_eq, evF_B _ _ _ _ _ _ (by kernel_rfl)]
    rw [beqF e106, cond_false]
    by_cases e107 : f = 107
    · subst e107; rw [Nat.beq_refl, cond_true, ← g107_eq, evF_B _ _ _ _ _ _ (by kernel_rfl)]
    rw [beqF e107, cond_false]
    by_cases e72 : f = 72
    · subst e72; rw [Nat.beq_refl, cond_true, ← g72_eq, evF_B _ _ _ _ _ _ (by kernel_rfl)]
    rw [beqF e72, cond_false]
    by_cases e134 : f = 134
    · subst e134; rw [Nat.beq_refl, cond_true, ← g134_eq, evF_B _ _ _ _ _ _ (by kernel_rfl)]
    rw [beqF e134, cond_false]
    by_cases e150 : f = 150
    · subst e150; rw [Nat.beq_refl, cond_true, ← g150_eq, evF_B _ _ _ _ _ _ (by kernel_rfl)]
    rw [beqF e150, cond_false]
    by_cases e28 : f = 28
    · subst e28; rw [Nat.beq_refl, cond_true, ← g28_eq, evF_B _ _ _ _ _ _ (by kernel_rfl)]
    rw [beqF e28, cond_false]
    by_cases e30 : f = 30
    · subst e30; rw [Nat.beq_refl, cond_true, ← g30_eq, evF_B _ _ _ _ _ _ (by kernel_rfl)]
    rw [beqF e30, cond_false]
    by_cases e35 : f = 35
    · subst e35; rw [Nat.beq_refl, cond_true, ← g35_eq, evF_B _ _ _ _ _ _ (by kernel_rfl)]
    rw [beqF e35, cond_false]
    by_cases e38 : f = 38
    · subst e38; rw [Nat.beq_refl, cond_true, ← g38_eq, evF_B _ _ _ _ _ _ (by kernel_rfl)]
    rw [beqF e38, cond_false]
    by_cases e54 : f = 54
    · subst e54; rw [Nat.beq_refl, cond_true, ← g54_eq, evF_B _ _ _ _ _ _ (by kernel_rfl)]
    rw [beqF e54, cond_false]
    by_cases e55 : f = 55
    · subst e55; rw [Nat.beq_refl, cond_true, ← g55_eq, evF_B _ _ _ _ _ _ (by kernel_rfl)]
    rw [beqF e55, cond_false]
    by_cases e56 : f = 56
    · subst e56; rw [Nat.beq_refl, cond_true, ← g56_eq, evF_B _ _ _ _ _ _ (by kernel_rfl)]
    rw [beqF e56, cond_false]
    by_cases e57 : f = 57
    · subst e57; rw [Nat.beq_refl, cond_true, ← g57_eq, evF_B _ _ _ _ _ _ (by kernel_rfl)]
    rw [beqF e57, cond_false]
    by_cases e58 : f = 58
    · subst e58; rw [Nat.beq_refl, cond_true, ← g58_eq, evF_B _ _ _ _ _ _ (by kernel_rfl)]
    rw [beqF e58, cond_false]
    by_cases e59 : f = 59
    · subst e59; rw [Nat.beq_refl, cond_true, ← g59_eq, evF_B _ _ _ _ _ _ (by kernel_rfl)]
    rw [beqF e59, cond_false]
    by_cases e60 : f = 60
    · subst e60; rw [Nat.beq_refl, cond_true, ← g60_eq, evF_B _ _ _ _ _ _ (by kernel_rfl)]
    rw [beqF e60, cond_false]
    by_cases e61 : f = 61
    · subst e61; rw [Nat.beq_refl, cond_true, ← g61_eq, evF_B _ _ _ _ _ _ (by kernel_rfl)]
    rw [beqF e61, cond_false]
    by_cases e62 : f = 62
    · subst e62; rw [Nat.beq_refl, cond_true, ← g62_eq, evF_B _ _ _ _ _ _ (by kernel_rfl)]
    rw [beqF e62, cond_false]
    by_cases e65 : f = 65
    · subst e65; rw [Nat.beq_refl, cond_true, ← g65_eq, evF_B _ _ _ _ _ _ (by kernel_rfl)]
    rw [beqF e65, cond_false]
    by_cases e66 : f = 66
    · subst e66; rw [Nat.beq_refl, cond_true, ← g66_eq, evF_B _ _ _ _ _ _ (by kernel_rfl)]
    rw [beqF e66, cond_false]
    by_cases e68 : f = 68
    · subst e68; rw [Nat.beq_refl, cond_true, ← g68_eq, evF_B _ _ _ _ _ _ (by kernel_rfl)]
    rw [beqF e68, cond_false]
    by_cases e69 : f = 69
    · subst e69; rw [Nat.beq_refl, cond_true, ← g69_eq, evF_B _ _ _ _ _ _ (by kernel_rfl)]
    rw [beqF e69, cond_false]
    by_cases e97 : f = 97
    · subst e97; rw [Nat.beq_refl, cond_true, ← g97_eq, evF_B _ _ _ _ _ _ (by kernel_rfl)]
    rw [beqF e97, cond_false]
    by_cases e98 : f = 98
    · subst e98; rw [Nat.beq_refl, cond_true, ← g98_eq, evF_B _ _ _ _ _ _ (by kernel_rfl)]
    rw [beqF e98, cond_false]
    by_cases e99 : f = 99
    · subst e99; rw [Nat.beq_refl, cond_true, ← g99_eq, evF_B _ _ _ _ _ _ (by kernel_rfl)]
    rw [beqF e99, cond_false]
    by_cases e100 : f = 100
    · subst e100; rw [Nat.beq_refl, cond_true, ← g100_eq, evF_B _ _ _ _ _ _ (by kernel_rfl)]
    rw [beqF e100, cond_false]
    by_cases e101 : f = 101
    · subst e101; rw [Nat.beq_refl, cond_true, ← g101_eq, evF_B _ _ _ _ _ _ (by kernel_rfl)]
    rw [beqF e101, cond_false]
    by_cases e102 : f = 102
    · subst e102; rw [Nat.beq_refl, cond_true, ← g102_eq, evF_B _ _ _ _ _ _ (by kernel_rfl)]
    rw [beqF e102, cond_false]
    by_cases e103 : f = 103
    · subst e103; rw [Nat.beq_refl, cond_true, ← g103_eq, evF_B _ _ _ _ _ _ (by kernel_rfl)]
    rw [beqF e103, cond_false]
    by_cases e104 : f = 104
    · subst e104; rw [Nat.beq_refl, cond_true, ← g104_eq, evF_B _ _ _ _ _ _ (by kernel_rfl)]
    rw [beqF e104, cond_false]
    by_cases e131 : f = 131
    · subst e131; rw [Nat.beq_refl, cond_true, ← g131_eq, evF_B _ _ _ _ _ _ (by kernel_rfl)]
    rw [beqF e131, cond_false]
    by_cases e132 : f = 132
    · subst e132; rw [Nat.beq_refl, cond_true, ← g132_eq, evF_B _ _ _ _ _ _ (by kernel_rfl)]
    rw [beqF e132, cond_false]
    by_cases e133 : f = 133
    · subst e133; rw [Nat.beq_refl, cond_true, ← g133_eq, evF_B _ _ _ _ _ _ (by kernel_rfl)]
    rw [beqF e133, cond_false]
    by_cases e138 : f = 138
    · subst e138; rw [Nat.beq_refl, cond_true, ← g138_eq, evF_B _ _ _ _ _ _ (by kernel_rfl)]
    rw [beqF e138, cond_false]
end Go.Amb
