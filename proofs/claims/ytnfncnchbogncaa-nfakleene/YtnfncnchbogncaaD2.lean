/- Part of the proof by the abstract machine: no claim of its own. -/
import Derived.Test.YtnfncnchbogncaaD0
import Derived.KernelRfl
set_option linter.unusedSimpArgs false
set_option linter.unusedVariables false
set_option linter.unnecessarySimpa false
set_option linter.unusedSectionVars false
set_option linter.unusedVariables false
set_option maxRecDepth 100000
namespace Go.Amb
open Go.Proofs
-- "kerf/nfa.Takes"
noncomputable def g35 (call : Call) (lf : Nat) (σ : St) (h : AHeap) (k : KS) : Option Ans :=
  cNew (σ 0).cells.toList 67 h fun v3 h4 =>
  cLoadA [.slc, .int .i64, .int .i64] v3 h4 fun v9 =>
  cCall call 38 [v9, (σ 1), (Go.Value.int Go.IntKind.i64 0)] [(false, [.slc])] h4 (fun v14 h15 =>
  cLenS (σ 1) fun v20 =>
  cCall call 70 [v14, v20] [(false, [.bool])] h15 (fun v23 h24 =>
  k .ret (updL σ [(4, v23), (10, v23), (9, v20), (8, (σ 1)), (7, v14), (6, (σ 1)), (5, v9), (4, (Go.Value.bool false)), (2, v3)]) h24) (fun v21 h22 => k (.panic v21) (updL σ [(9, v20), (8, (σ 1)), (7, v14), (6, (σ 1)), (5, v9), (4, (Go.Value.bool false)), (2, v3)]) h22)) (fun v12 h13 => k (.panic v12) (updL σ [(6, (σ 1)), (5, v9), (4, (Go.Value.bool false)), (2, v3)]) h13)
theorem g35_eq (call : Call) (lf : Nat) (args : List Value) (h : AHeap) : evB EK call lf 35 args h = g35 call lf (st0 args) h (finS EK [.tmp 4]) := by kernel_rfl
theorem c35 (call : Call) (args : List Value) (h : AHeap) (K kp : K2) : evCall EK call 35 args h K kp = cCall call 35 args [(false, [.bool])] h K kp := by kernel_rfl
-- "kerf/nfa.Ends"
noncomputable def g38_C4 (call : Call) (lf : Nat) (σ : St) (h : AHeap) (k : KS) : Option Ans :=
  cIf (σ 47)
  (k .ret (updL σ [(6, (σ 7)), (48, (σ 7))]) h)
  (dr (cLoadA [.slc, .int .i64, .int .i64] (σ 3) h fun v104 =>
  rety v104 h) fun v102 h103 =>
  dr (cIdxS 1 (σ 1) (σ 9) fun v107 =>
  rety v107 h103) fun v105 h106 =>
  dr (cLoad1 (.int .i64) v105 h106 fun v110 =>
  rety v110 h106) fun v108 h109 =>
  dr (cCall call 74 [v102, (σ 8), v108] [(false, [.slc])] h109 (fun v113 h114 =>
  rety v113 h114) nopan) fun v111 h112 =>
  cBin EK .add 3 (σ 9) (Go.Value.int Go.IntKind.i64 1) fun v119 =>
  k .normal (updL σ [(9, v119), (30, v119), (29, (σ 9)), (8, v111), (55, v111), (54, v108), (53, v105), (52, (σ 9)), (51, (σ 1)), (50, (σ 8)), (49, v102)]) h112)
noncomputable def g38_C3 (call : Call) (lf : Nat) (σ : St) (h : AHeap) (k : KS) : Option Ans :=
  cLenS (σ 1) fun v88 =>
  cBin EK .eql 3 (σ 9) v88 fun v91 =>
  gd v91
  (cPick (Value.bool true) (Go.Value.bool true) undef fun v97 =>
  g38_C4 call lf (updL σ [(47, v97), (46, undef), (43, (Value.bool true)), (45, undef), (43, (Value.bool true)), (44, undef), (43, (Value.bool true)), (43, v91), (42, v91), (41, v88), (40, (σ 1)), (39, (σ 9))]) h k)
  (cLenS (σ 8) fun v126 =>
  cBin EK .eql 3 v126 (Go.Value.int Go.IntKind.i64 0) fun v129 =>
  cPick (Value.bool false) (Go.Value.bool true) v129 fun v132 =>
  g38_C4 call lf (updL σ [(47, v132), (46, v129), (43, (Value.bool false)), (45, v126), (43, (Value.bool false)), (44, (σ 8)), (43, (Value.bool false)), (43, v91), (42, v91), (41, v88), (40, (σ 1)), (39, (σ 9))]) h k)
  (fun c94 => cPick (Value.tuple c94) (Go.Value.bool true) undef fun v135 =>
  g38_C4 call lf (updL σ [(47, v135), (46, undef), (43, (Value.tuple c94)), (45, undef), (43, (Value.tuple c94)), (44, undef), (43, (Value.tuple c94)), (43, v91), (42, v91), (41, v88), (40, (σ 1)), (39, (σ 9))]) h k)
noncomputable def g38_L2 (call : Call) (lf : Nat) (σ : St) (h : AHeap) (k : KS) : Option Ans :=
  cFieldAddr 2 (σ 3) fun v60 =>
  cLoad1 (.int .i64) v60 h fun v63 =>
  cCall call 70 [(σ 8), v63] [(false, [.bool])] h (fun v66 h67 =>
  cIf v66
  (cBuildS 3 1 [(0, 1, (σ 9))] [(.int .i64 (0))] h67 fun v74 h75 =>
  cAppend 3 1 8 (σ 7) v74 h75 fun v78 h79 =>
  g38_C3 call lf (updL σ [(7, v78), (38, v78), (37, v74), (36, (σ 9)), (35, (σ 7)), (34, v66), (33, v63), (32, v60), (31, (σ 8))]) h79 k)
  (g38_C3 call lf (updL σ [(34, v66), (33, v63), (32, v60), (31, (σ 8))]) h67 k)) (fun v64 h65 => k (.panic v64) (updL σ [(33, v63), (32, v60), (31, (σ 8))]) h65)
noncomputable def g38_C1 (call : Call) (lf : Nat) (σ : St) (h : AHeap) (k : KS) : Option Ans :=
  cIf (σ 22)
  (k .ret (updL σ [(6, (Go.Value.slice none 0 0))]) h)
  (cLoadA [.slc, .int .i64, .int .i64] (σ 3) h fun v35 =>
  cFieldAddr 1 (σ 3) fun v38 =>
  cLoad1 (.int .i64) v38 h fun v41 =>
  cBuildS 3 1 [(0, 1, v41)] [(.int .i64 (0))] h fun v44 h45 =>
  cCall call 73 [v35, v44] [(false, [.slc])] h45 (fun v48 h49 =>
  loopS (g38_L2 call lf) lf (updL σ [(9, (σ 2)), (28, (σ 2)), (8, v48), (27, v48), (26, v44), (25, v41), (24, v38), (23, v35), (7, (Go.Value.slice none 0 0))]) h49 (hBlk 0 k)) (fun v46 h47 => k (.panic v46) (updL σ [(26, v44), (25, v41), (24, v38), (23, v35), (7, (Go.Value.slice none 0 0))]) h47))
noncomputable def g38 (call : Call) (lf : Nat) (σ : St) (h : AHeap) (k : KS) : Option Ans :=
  cNew (σ 0).cells.toList 67 h fun v3 h4 =>
  cLoadA [.slc, .int .i64, .int .i64] v3 h4 fun v9 =>
  cCall call 72 [v9] [(false, [.bool])] h4 (fun v12 h13 =>
  cUn .not v12 fun v16 =>
  gd v16
  (cPick (Value.bool true) (Go.Value.bool true) undef fun v22 =>
  gd v22
  (cPick (Value.bool true) (Go.Value.bool true) undef fun v28 =>
  g38_C1 call lf (updL σ [(22, v28), (21, undef), (17, (Value.bool true)), (20, undef), (17, (Value.bool true)), (19, undef), (17, (Value.bool true)), (18, undef), (17, (Value.bool true)), (17, v22), (16, v22), (15, undef), (13, (Value.bool true)), (14, undef), (13, (Value.bool true)), (13, v16), (12, v16), (11, v12), (10, v9), (6, (Go.Value.slice none 0 0)), (3, v3)]) h13 k)
  (cLenS (σ 1) fun v142 =>
  cBin EK .gtr 3 (σ 2) v142 fun v145 =>
  cPick (Value.bool false) (Go.Value.bool true) v145 fun v148 =>
  g38_C1 call lf (updL σ [(22, v148), (21, v145), (17, (Value.bool false)), (20, v142), (17, (Value.bool false)), (19, (σ 1)), (17, (Value.bool false)), (18, (σ 2)), (17, (Value.bool false)), (17, v22), (16, v22), (15, undef), (13, (Value.bool true)), (14, undef), (13, (Value.bool true)), (13, v16), (12, v16), (11, v12), (10, v9), (6, (Go.Value.slice none 0 0)), (3, v3)]) h13 k)
  (fun c25 => cPick (Value.tuple c25) (Go.Value.bool true) undef fun v151 =>
  g38_C1 call lf (updL σ [(22, v151), (21, undef), (17, (Value.tuple c25)), (20, undef), (17, (Value.tuple c25)), (19, undef), (17, (Value.tuple c25)), (18, undef), (17, (Value.tuple c25)), (17, v22), (16, v22), (15, undef), (13, (Value.bool true)), (14, undef), (13, (Value.bool true)), (13, v16), (12, v16), (11, v12), (10, v9), (6, (Go.Value.slice none 0 0)), (3, v3)]) h13 k))
  (cBin EK .lss 3 (σ 2) (Go.Value.int Go.IntKind.i64 0) fun v156 =>
  cPick (Value.bool false) (Go.Value.bool true) v156 fun v159 =>
  gd v159
  (cPick (Value.bool true) (Go.Value.bool true) undef fun v165 =>
  g38_C1 call lf (updL σ [(22, v165), (21, undef), (17, (Value.bool true)), (20, undef), (17, (Value.bool true)), (19, undef), (17, (Value.bool true)), (18, undef), (17, (Value.bool true)), (17, v159), (16, v159), (15, v156), (13, (Value.bool false)), (14, (σ 2)), (13, (Value.bool false)), (13, v16), (12, v16), (11, v12), (10, v9), (6, (Go.Value.slice none 0 0)), (3, v3)]) h13 k)
  (cLenS (σ 1) fun v172 =>
  cBin EK .gtr 3 (σ 2) v172 fun v175 =>
  cPick (Value.bool false) (Go.Value.bool true) v175 fun v178 =>
  g38_C1 call lf (updL σ [(22, v178), (21, v175), (17, (Value.bool false)), (20, v172), (17, (Value.bool false)), (19, (σ 1)), (17, (Value.bool false)), (18, (σ 2)), (17, (Value.bool false)), (17, v159), (16, v159), (15, v156), (13, (Value.bool false)), (14, (σ 2)), (13, (Value.bool false)), (13, v16), (12, v16), (11, v12), (10, v9), (6, (Go.Value.slice none 0 0)), (3, v3)]) h13 k)
  (fun c162 => cPick (Value.tuple c162) (Go.Value.bool true) undef fun v181 =>
  g38_C1 call lf (updL σ [(22, v181), (21, undef), (17, (Value.tuple c162)), (20, undef), (17, (Value.tuple c162)), (19, undef), (17, (Value.tuple c162)), (18, undef), (17, (Value.tuple c162)), (17, v159), (16, v159), (15, v156), (13, (Value.bool false)), (14, (σ 2)), (13, (Value.bool false)), (13, v16), (12, v16), (11, v12), (10, v9), (6, (Go.Value.slice none 0 0)), (3, v3)]) h13 k))
  (fun c19 => cPick (Value.tuple c19) (Go.Value.bool true) undef fun v184 =>
  gd v184
  (cPick (Value.bool true) (Go.Value.bool true) undef fun v190 =>
  g38_C1 call lf (updL σ [(22, v190), (21, undef), (17, (Value.bool true)), (20, undef), (17, (Value.bool true)), (19, undef), (17, (Value.bool true)), (18, undef), (17, (Value.bool true)), (17, v184), (16, v184), (15, undef), (13, (Value.tuple c19)), (14, undef), (13, (Value.tuple c19)), (13, v16), (12, v16), (11, v12), (10, v9), (6, (Go.Value.slice none 0 0)), (3, v3)]) h13 k)
  (cLenS (σ 1) fun v197 =>
  cBin EK .gtr 3 (σ 2) v197 fun v200 =>
  cPick (Value.bool false) (Go.Value.bool true) v200 fun v203 =>
  g38_C1 call lf (updL σ [(22, v203), (21, v200), (17, (Value.bool false)), (20, v197), (17, (Value.bool false)), (19, (σ 1)), (17, (Value.bool false)), (18, (σ 2)), (17, (Value.bool false)), (17, v184), (16, v184), (15, undef), (13, (Value.tuple c19)), (14, undef), (13, (Value.tuple c19)), (13, v16), (12, v16), (11, v12), (10, v9), (6, (Go.Value.slice none 0 0)), (3, v3)]) h13 k)
  (fun c187 => cPick (Value.tuple c187) (Go.Value.bool true) undef fun v206 =>
  g38_C1 call lf (updL σ [(22, v206), (21, undef), (17, (Value.tuple c187)), (20, undef), (17, (Value.tuple c187)), (19, undef), (17, (Value.tuple c187)), (18, undef), (17, (Value.tuple c187)), (17, v184), (16, v184), (15, undef), (13, (Value.tuple c19)), (14, undef), (13, (Value.tuple c19)), (13, v16), (12, v16), (11, v12), (10, v9), (6, (Go.Value.slice none 0 0)), (3, v3)]) h13 k))) (fun v10 h11 => k (.panic v10) (updL σ [(10, v9), (6, (Go.Value.slice none 0 0)), (3, v3)]) h11)
theorem g38_eq (call : Call) (lf : Nat) (args : List Value) (h : AHeap) : evB EK call lf 38 args h = g38 call lf (st0 args) h (finS EK [.tmp 6]) := by kernel_rfl
theorem c38 (call : Call) (args : List Value) (h : AHeap) (K kp : K2) : evCall EK call 38 args h K kp = cCall call 38 args [(false, [.slc])] h K kp := by kernel_rfl
-- "kerf/kerflaw06.set"
noncomputable def g65 (call : Call) (lf : Nat) (σ : St) (h : AHeap) (k : KS) : Option Ans :=
  cNew [(.int .i64 (0)), (.slice none 0 0), (.slice none 0 0)] 64 h fun v3 h4 =>
  cBuild [(0, 1, (Go.Value.int Go.IntKind.i64 1)), (1, 1, (σ 0))] [(.int .i64 (0)), (.slice none 0 0), (.slice none 0 0)] fun v9 =>
  cStore 3 v3 v9 h4 fun h12 =>
  k .ret (updL σ [(4, v9), (3, (σ 0)), (2, v3)]) h12
theorem g65_eq (call : Call) (lf : Nat) (args : List Value) (h : AHeap) : evB EK call lf 65 args h = g65 call lf (st0 args) h (finS EK [.cell 2 64]) := by kernel_rfl
theorem c65 (call : Call) (args : List Value) (h : AHeap) (K kp : K2) : evCall EK call 65 args h K kp = cCall call 65 args [(true, [.int .i64, .slc, .slc])] h K kp := by kernel_rfl
-- "kerf/nfa.Words"
noncomputable def g66_L2 (call : Call) (lf : Nat) (σ : St) (h : AHeap) (k : KS) : Option Ans :=
  cBin EK .lss 3 (σ 32) (σ 31) fun v67 =>
  cIf v67
  (cCall call 104 [(σ 7), (σ 32)] [] h (fun v78 h79 =>
  cBin EK .add 3 (σ 32) (Go.Value.int Go.IntKind.i64 1) fun v82 =>
  k .normal (updL σ [(32, v82), (38, v82), (37, v78), (36, (σ 32)), (35, (σ 7)), (8, (σ 32)), (34, (σ 32)), (33, v67)]) h79) (fun v76 h77 => k (.panic v76) (updL σ [(36, (σ 32)), (35, (σ 7)), (8, (σ 32)), (34, (σ 32)), (33, v67)]) h77))
  (k (.exit 0) (updL σ [(33, v67)]) h)
noncomputable def g66_C3 (call : Call) (lf : Nat) (σ : St) (h : AHeap) (k : KS) : Option Ans :=
  cNilCheck (σ 7) fun v89 =>
  cFieldAddr 5 v89 fun v92 =>
  cLoad1 (.slc) v92 h fun v95 =>
  k .ret (updL σ [(6, v95), (42, v95), (41, v92), (40, v89), (39, (σ 7))]) h
noncomputable def g66_C1 (call : Call) (lf : Nat) (σ : St) (h : AHeap) (k : KS) : Option Ans :=
  cIf (σ 19)
  (k .ret (updL σ [(6, (Go.Value.slice none 0 0))]) h)
  (cMin (σ 1) (Go.Value.int Go.IntKind.i64 12) fun v35 =>
  dr (cLoadA [.slc, .int .i64, .int .i64] (σ 3) h fun v40 =>
  rety v40 h) fun v38 h39 =>
  dr (cLoadA [.slc, .int .i64, .int .i64] (σ 3) h39 fun v43 =>
  rety v43 h39) fun v41 h42 =>
  dr (cMin (σ 2) (Go.Value.int Go.IntKind.i64 1000) fun v46 =>
  rety v46 h42) fun v44 h45 =>
  dr (cCall call 103 [v41, v35] [(false, [.slc])] h45 (fun v49 h50 =>
  rety v49 h50) nopan) fun v47 h48 =>
  rk (cMin (σ 2) (Go.Value.int Go.IntKind.i64 1000) fun v51 =>
  rety v51 h48) v44 (
  rk (rety (σ 2) h48) (σ 2) (
  rk (cLoadA [.slc, .int .i64, .int .i64] (σ 3) h48 fun v52 =>
  rety v52 h48) v38 (
  dr (cBuild [(0, 3, v38), (3, 1, v47), (6, 1, v44)] [(.slice none 0 0), (.int .i64 (0)), (.int .i64 (0)), (.slice none 0 0), (.slice none 0 0), (.slice none 0 0), (.int .i64 (0))] fun v55 =>
  rety v55 h48) fun v53 h54 =>
  cNew v53.cells.toList 154 h54 fun v56 h57 =>
  cBin EK .add 3 v35 (Go.Value.int Go.IntKind.i64 1) fun v62 =>
  loopS (g66_L2 call lf) lf (updL σ [(32, (Go.Value.int Go.IntKind.i64 0)), (31, v62), (30, v35), (7, v56), (29, v56), (28, v53), (25, v47), (27, v44), (26, (σ 2)), (24, v35), (23, v41), (22, v38), (1, v35), (21, v35), (20, (σ 1))]) h57 (hBlk 0 (hSeq (fun σ h => g66_C3 call lf σ h k) k))))))
noncomputable def g66 (call : Call) (lf : Nat) (σ : St) (h : AHeap) (k : KS) : Option Ans :=
  cNew (σ 0).cells.toList 67 h fun v3 h4 =>
  cLoadA [.slc, .int .i64, .int .i64] v3 h4 fun v9 =>
  cCall call 72 [v9] [(false, [.bool])] h4 (fun v12 h13 =>
  cUn .not v12 fun v16 =>
  gd v16
  (cPick (Value.bool true) (Go.Value.bool true) undef fun v22 =>
  gd v22
  (cPick (Value.bool true) (Go.Value.bool true) undef fun v28 =>
  g66_C1 call lf (updL σ [(19, v28), (18, undef), (16, (Value.bool true)), (17, undef), (16, (Value.bool true)), (16, v22), (15, v22), (14, undef), (12, (Value.bool true)), (13, undef), (12, (Value.bool true)), (12, v16), (11, v16), (10, v12), (9, v9), (6, (Go.Value.slice none 0 0)), (3, v3)]) h13 k)
  (cBin EK .lss 3 (σ 1) (Go.Value.int Go.IntKind.i64 0) fun v102 =>
  cPick (Value.bool false) (Go.Value.bool true) v102 fun v105 =>
  g66_C1 call lf (updL σ [(19, v105), (18, v102), (16, (Value.bool false)), (17, (σ 1)), (16, (Value.bool false)), (16, v22), (15, v22), (14, undef), (12, (Value.bool true)), (13, undef), (12, (Value.bool true)), (12, v16), (11, v16), (10, v12), (9, v9), (6, (Go.Value.slice none 0 0)), (3, v3)]) h13 k)
  (fun c25 => cPick (Value.tuple c25) (Go.Value.bool true) undef fun v108 =>
  g66_C1 call lf (updL σ [(19, v108), (18, undef), (16, (Value.tuple c25)), (17, undef), (16, (Value.tuple c25)), (16, v22), (15, v22), (14, undef), (12, (Value.bool true)), (13, undef), (12, (Value.bool true)), (12, v16), (11, v16), (10, v12), (9, v9), (6, (Go.Value.slice none 0 0)), (3, v3)]) h13 k))
  (cBin EK .lss 3 (σ 2) (Go.Value.int Go.IntKind.i64 1) fun v113 =>
  cPick (Value.bool false) (Go.Value.bool true) v113 fun v116 =>
  gd v116
  (cPick (Value.bool true) (Go.Value.bool true) undef fun v122 =>
  g66_C1 call lf (updL σ [(19, v122), (18, undef), (16, (Value.bool true)), (17, undef), (16, (Value.bool true)), (16, v116), (15, v116), (14, v113), (12, (Value.bool false)), (13, (σ 2)), (12, (Value.bool false)), (12, v16), (11, v16), (10, v12), (9, v9), (6, (Go.Value.slice none 0 0)), (3, v3)]) h13 k)
  (cBin EK .lss 3 (σ 1) (Go.Value.int Go.IntKind.i64 0) fun v127 =>
  cPick (Value.bool false) (Go.Value.bool true) v127 fun v130 =>
  g66_C1 call lf (updL σ [(19, v130), (18, v127), (16, (Value.bool false)), (17, (σ 1)), (16, (Value.bool false)), (16, v116), (15, v116), (14, v113), (12, (Value.bool false)), (13, (σ 2)), (12, (Value.bool false)), (12, v16), (11, v16), (10, v12), (9, v9), (6, (Go.Value.slice none 0 0)), (3, v3)]) h13 k)
  (fun c119 => cPick (Value.tuple c119) (Go.Value.bool true) undef fun v133 =>
  g66_C1 call lf (updL σ [(19, v133), (18, undef), (16, (Value.tuple c119)), (17, undef), (16, (Value.tuple c119)), (16, v116), (15, v116), (14, v113), (12, (Value.bool false)), (13, (σ 2)), (12, (Value.bool false)), (12, v16), (11, v16), (10, v12), (9, v9), (6, (Go.Value.slice none 0 0)), (3, v3)]) h13 k))
  (fun c19 => cPick (Value.tuple c19) (Go.Value.bool true) undef fun v136 =>
  gd v136
  (cPick (Value.bool true) (Go.Value.bool true) undef fun v142 =>
  g66_C1 call lf (updL σ [(19, v142), (18, undef), (16, (Value.bool true)), (17, undef), (16, (Value.bool true)), (16, v136), (15, v136), (14, undef), (12, (Value.tuple c19)), (13, undef), (12, (Value.tuple c19)), (12, v16), (11, v16), (10, v12), (9, v9), (6, (Go.Value.slice none 0 0)), (3, v3)]) h13 k)
  (cBin EK .lss 3 (σ 1) (Go.Value.int Go.IntKind.i64 0) fun v147 =>
  cPick (Value.bool false) (Go.Value.bool true) v147 fun v150 =>
  g66_C1 call lf (updL σ [(19, v150), (18, v147), (16, (Value.bool false)), (17, (σ 1)), (16, (Value.bool false)), (16, v136), (15, v136), (14, undef), (12, (Value.tuple c19)), (13, undef), (12, (Value.tuple c19)), (12, v16), (11, v16), (10, v12), (9, v9), (6, (Go.Value.slice none 0 0)), (3, v3)]) h13 k)
  (fun c139 => cPick (Value.tuple c139) (Go.Value.bool true) undef fun v153 =>
  g66_C1 call lf (updL σ [(19, v153), (18, undef), (16, (Value.tuple c139)), (17, undef), (16, (Value.tuple c139)), (16, v136), (15, v136), (14, undef), (12, (Value.tuple c19)), (13, undef), (12, (Value.tuple c19)), (12, v16), (11, v16), (10, v12), (9, v9), (6, (Go.Value.slice none 0 0)), (3, v3)]) h13 k))) (fun v10 h11 => k (.panic v10) (updL σ [(9, v9), (6, (Go.Value.slice none 0 0)), (3, v3)]) h11)
theorem g66_eq (call : Call) (lf : Nat) (args : List Value) (h : AHeap) : evB EK call lf 66 args h = g66 call lf (st0 args) h (finS EK [.tmp 6]) := by kernel_rfl
theorem c66 (call : Call) (args : List Value) (h : AHeap) (K kp : K2) : evCall EK call 66 args h K kp = cCall call 66 args [(false, [.slc])] h K kp := by kernel_rfl
-- "kerf/nfa.Check"
noncomputable def g67_C3 (call : Call) (lf : Nat) (σ : St) (h : AHeap) (k : KS) : Option Ans :=
  cIf (σ 49)
  (k .ret (updL σ [(3, (σ 5)), (2, (Go.Value.int Go.IntKind.i64 60)), (50, (σ 5))]) h)
  (cBin EK .add 3 (σ 35) (Go.Value.int Go.IntKind.i64 1) fun v123 =>
  k .normal (updL σ [(35, v123), (51, v123)]) h)
noncomputable def g67_L2 (call : Call) (lf : Nat) (σ : St) (h : AHeap) (k : KS) : Option Ans :=
  cBin EK .lss 3 (σ 35) (σ 34) fun v79 =>
  cIf v79
  (cIdxS 2 (σ 33) (σ 35) fun v84 =>
  cLoadA [.slc, .slc] v84 h fun v87 =>
  cNew [(.slice none 0 0), (.slice none 0 0)] 102 h fun v90 h91 =>
  cStore 2 v90 v87 h91 fun h96 =>
  cFieldAddr 0 v90 fun v99 =>
  cLoad1 (.slc) v99 h96 fun v102 =>
  cCall call 105 [v102, (Value.func (.func 106) #[] #[(σ 4)])] [(false, [.bool])] h96 (fun v107 h108 =>
  gd v107
  (cPick (Value.bool true) (Go.Value.bool true) undef fun v114 =>
  g67_C3 call lf (updL σ [(49, v114), (48, undef), (44, (Value.bool true)), (47, undef), (44, (Value.bool true)), (46, undef), (44, (Value.bool true)), (45, undef), (44, (Value.bool true)), (44, v107), (43, v107), (42, (Value.func (.func 106) #[] #[(σ 4)])), (41, v102), (40, v99), (5, (σ 35)), (6, v90), (39, v87), (38, v84), (37, (σ 35)), (36, v79)]) h108 k)
  (cFieldAddr 1 v90 fun v128 =>
  cLoad1 (.slc) v128 h108 fun v131 =>
  cCall call 108 [v131, (Value.func (.func 109) #[] #[(σ 4)])] [(false, [.bool])] h108 (fun v136 h137 =>
  cPick (Value.bool false) (Go.Value.bool true) v136 fun v140 =>
  g67_C3 call lf (updL σ [(49, v140), (48, v136), (44, (Value.bool false)), (47, (Value.func (.func 109) #[] #[(σ 4)])), (44, (Value.bool false)), (46, v131), (44, (Value.bool false)), (45, v128), (44, (Value.bool false)), (44, v107), (43, v107), (42, (Value.func (.func 106) #[] #[(σ 4)])), (41, v102), (40, v99), (5, (σ 35)), (6, v90), (39, v87), (38, v84), (37, (σ 35)), (36, v79)]) h137 k) (fun v134 h135 => k (.panic v134) (updL σ [(44, (Value.bool false)), (47, (Value.func (.func 109) #[] #[(σ 4)])), (44, (Value.bool false)), (46, v131), (44, (Value.bool false)), (45, v128), (44, (Value.bool false)), (44, v107), (43, v107), (42, (Value.func (.func 106) #[] #[(σ 4)])), (41, v102), (40, v99), (5, (σ 35)), (6, v90), (39, v87), (38, v84), (37, (σ 35)), (36, v79)]) h135))
  (fun c111 => cPick (Value.tuple c111) (Go.Value.bool true) undef fun v143 =>
  g67_C3 call lf (updL σ [(49, v143), (48, undef), (44, (Value.tuple c111)), (47, undef), (44, (Value.tuple c111)), (46, undef), (44, (Value.tuple c111)), (45, undef), (44, (Value.tuple c111)), (44, v107), (43, v107), (42, (Value.func (.func 106) #[] #[(σ 4)])), (41, v102), (40, v99), (5, (σ 35)), (6, v90), (39, v87), (38, v84), (37, (σ 35)), (36, v79)]) h108 k)) (fun v105 h106 => k (.panic v105) (updL σ [(42, (Value.func (.func 106) #[] #[(σ 4)])), (41, v102), (40, v99), (5, (σ 35)), (6, v90), (39, v87), (38, v84), (37, (σ 35)), (36, v79)]) h106))
  (k (.exit 0) (updL σ [(36, v79)]) h)
noncomputable def g67_C4 (call : Call) (lf : Nat) (σ : St) (h : AHeap) (k : KS) : Option Ans :=
  k .ret (updL σ [(3, (Go.Value.int Go.IntKind.i64 0)), (2, (Go.Value.int Go.IntKind.i64 0))]) h
noncomputable def g67_C1 (call : Call) (lf : Nat) (σ : St) (h : AHeap) (k : KS) : Option Ans :=
  cIf (σ 31)
  (k .ret (updL σ [(3, (Go.Value.int Go.IntKind.i64 0)), (2, (Go.Value.int Go.IntKind.i64 61))]) h)
  (cFieldAddr 0 (σ 1) fun v68 =>
  cLoad1 (.slc) v68 h fun v71 =>
  cLenS v71 fun v74 =>
  loopS (g67_L2 call lf) lf (updL σ [(35, (Go.Value.int Go.IntKind.i64 0)), (34, v74), (33, v71), (32, v68)]) h (hBlk 0 (hSeq (fun σ h => g67_C4 call lf σ h k) k)))
noncomputable def g67 (call : Call) (lf : Nat) (σ : St) (h : AHeap) (k : KS) : Option Ans :=
  cNew (σ 0).cells.toList 67 h fun v3 h4 =>
  cFieldAddr 0 v3 fun v11 =>
  cLoad1 (.slc) v11 h4 fun v14 =>
  cLenS v14 fun v17 =>
  cNew [(.int .i64 (0))] 3 h4 fun v20 h21 =>
  cStore 1 v20 v17 h21 fun h24 =>
  cLoad1 (.int .i64) v20 h24 fun v27 =>
  cBin EK .gtr 3 v27 (Go.Value.int Go.IntKind.i64 4096) fun v30 =>
  cIf v30
  (k .ret (updL σ [(3, (Go.Value.int Go.IntKind.i64 0)), (2, (Go.Value.int Go.IntKind.i64 6)), (11, v30), (10, v27), (4, v20), (9, v17), (8, v14), (7, v11), (3, (Go.Value.int Go.IntKind.i64 0)), (2, (Go.Value.int Go.IntKind.i64 0)), (1, v3)]) h24)
  (cFieldAddr 1 v3 fun v37 =>
  cLoad1 (.int .i64) v37 h24 fun v40 =>
  cBin EK .lss 3 v40 (Go.Value.int Go.IntKind.i64 0) fun v43 =>
  gd v43
  (cPick (Value.bool true) (Go.Value.bool true) undef fun v49 =>
  gd v49
  (cPick (Value.bool true) (Go.Value.bool true) undef fun v55 =>
  gd v55
  (cPick (Value.bool true) (Go.Value.bool true) undef fun v61 =>
  g67_C1 call lf (updL σ [(31, v61), (30, undef), (26, (Value.bool true)), (29, undef), (26, (Value.bool true)), (28, undef), (26, (Value.bool true)), (27, undef), (26, (Value.bool true)), (26, v55), (25, v55), (24, undef), (21, (Value.bool true)), (23, undef), (21, (Value.bool true)), (22, undef), (21, (Value.bool true)), (21, v49), (20, v49), (19, undef), (15, (Value.bool true)), (18, undef), (15, (Value.bool true)), (17, undef), (15, (Value.bool true)), (16, undef), (15, (Value.bool true)), (15, v43), (14, v43), (13, v40), (12, v37), (11, v30), (10, v27), (4, v20), (9, v17), (8, v14), (7, v11), (3, (Go.Value.int Go.IntKind.i64 0)), (2, (Go.Value.int Go.IntKind.i64 0)), (1, v3)]) h24 k)
  (cFieldAddr 2 v3 fun v150 =>
  cLoad1 (.int .i64) v150 h24 fun v153 =>
  cLoad1 (.int .i64) v20 h24 fun v156 =>
  cBin EK .geq 3 v153 v156 fun v159 =>
  cPick (Value.bool false) (Go.Value.bool true) v159 fun v162 =>
  g67_C1 call lf (updL σ [(31, v162), (30, v159), (26, (Value.bool false)), (29, v156), (26, (Value.bool false)), (28, v153), (26, (Value.bool false)), (27, v150), (26, (Value.bool false)), (26, v55), (25, v55), (24, undef), (21, (Value.bool true)), (23, undef), (21, (Value.bool true)), (22, undef), (21, (Value.bool true)), (21, v49), (20, v49), (19, undef), (15, (Value.bool true)), (18, undef), (15, (Value.bool true)), (17, undef), (15, (Value.bool true)), (16, undef), (15, (Value.bool true)), (15, v43), (14, v43), (13, v40), (12, v37), (11, v30), (10, v27), (4, v20), (9, v17), (8, v14), (7, v11), (3, (Go.Value.int Go.IntKind.i64 0)), (2, (Go.Value.int Go.IntKind.i64 0)), (1, v3)]) h24 k)
  (fun c58 => cPick (Value.tuple c58) (Go.Value.bool true) undef fun v165 =>
  g67_C1 call lf (updL σ [(31, v165), (30, undef), (26, (Value.tuple c58)), (29, undef), (26, (Value.tuple c58)), (28, undef), (26, (Value.tuple c58)), (27, undef), (26, (Value.tuple c58)), (26, v55), (25, v55), (24, undef), (21, (Value.bool true)), (23, undef), (21, (Value.bool true)), (22, undef), (21, (Value.bool true)), (21, v49), (20, v49), (19, undef), (15, (Value.bool true)), (18, undef), (15, (Value.bool true)), (17, undef), (15, (Value.bool true)), (16, undef), (15, (Value.bool true)), (15, v43), (14, v43), (13, v40), (12, v37), (11, v30), (10, v27), (4, v20), (9, v17), (8, v14), (7, v11), (3, (Go.Value.int Go.IntKind.i64 0)), (2, (Go.Value.int Go.IntKind.i64 0)), (1, v3)]) h24 k))
  (cFieldAddr 2 v3 fun v168 =>
  cLoad1 (.int .i64) v168 h24 fun v171 =>
  cBin EK .lss 3 v171 (Go.Value.int Go.IntKind.i64 0) fun v174 =>
  cPick (Value.bool false) (Go.Value.bool true) v174 fun v177 =>
  gd v177
  (cPick (Value.bool true) (Go.Value.bool true) undef fun v183 =>
  g67_C1 call lf (updL σ [(31, v183), (30, undef), (26, (Value.bool true)), (29, undef), (26, (Value.bool true)), (28, undef), (26, (Value.bool true)), (27, undef), (26, (Value.bool true)), (26, v177), (25, v177), (24, v174), (21, (Value.bool false)), (23, v171), (21, (Value.bool false)), (22, v168), (21, (Value.bool false)), (21, v49), (20, v49), (19, undef), (15, (Value.bool true)), (18, undef), (15, (Value.bool true)), (17, undef), (15, (Value.bool true)), (16, undef), (15, (Value.bool true)), (15, v43), (14, v43), (13, v40), (12, v37), (11, v30), (10, v27), (4, v20), (9, v17), (8, v14), (7, v11), (3, (Go.Value.int Go.IntKind.i64 0)), (2, (Go.Value.int Go.IntKind.i64 0)), (1, v3)]) h24 k)
  (cFieldAddr 2 v3 fun v186 =>
  cLoad1 (.int .i64) v186 h24 fun v189 =>
  cLoad1 (.int .i64) v20 h24 fun v192 =>
  cBin EK .geq 3 v189 v192 fun v195 =>
  cPick (Value.bool false) (Go.Value.bool true) v195 fun v198 =>
  g67_C1 call lf (updL σ [(31, v198), (30, v195), (26, (Value.bool false)), (29, v192), (26, (Value.bool false)), (28, v189), (26, (Value.bool false)), (27, v186), (26, (Value.bool false)), (26, v177), (25, v177), (24, v174), (21, (Value.bool false)), (23, v171), (21, (Value.bool false)), (22, v168), (21, (Value.bool false)), (21, v49), (20, v49), (19, undef), (15, (Value.bool true)), (18, undef), (15, (Value.bool true)), (17, undef), (15, (Value.bool true)), (16, undef), (15, (Value.bool true)), (15, v43), (14, v43), (13, v40), (12, v37), (11, v30), (10, v27), (4, v20), (9, v17), (8, v14), (7, v11), (3, (Go.Value.int Go.IntKind.i64 0)), (2, (Go.Value.int Go.IntKind.i64 0)), (1, v3)]) h24 k)
  (fun c180 => cPick (Value.tuple c180) (Go.Value.bool true) undef fun v201 =>
  g67_C1 call lf (updL σ [(31, v201), (30, undef), (26, (Value.tuple c180)), (29, undef), (26, (Value.tuple c180)), (28, undef), (26, (Value.tuple c180)), (27, undef), (26, (Value.tuple c180)), (26, v177), (25, v177), (24, v174), (21, (Value.bool false)), (23, v171), (21, (Value.bool false)), (22, v168), (21, (Value.bool false)), (21, v49), (20, v49), (19, undef), (15, (Value.bool true)), (18, undef), (15, (Value.bool true)), (17, undef), (15, (Value.bool true)), (16, undef), (15, (Value.bool true)), (15, v43), (14, v43), (13, v40), (12, v37), (11, v30), (10, v27), (4, v20), (9, v17), (8, v14), (7, v11), (3, (Go.Value.int Go.IntKind.i64 0)), (2, (Go.Value.int Go.IntKind.i64 0)), (1, v3)]) h24 k))
  (fun c52 => cPick (Value.tuple c52) (Go.Value.bool true) undef fun v204 =>
  gd v204
  (cPick (Value.bool true) (Go.Value.bool true) undef fun v210 =>
  g67_C1 call lf (updL σ [(31, v210), (30, undef), (26, (Value.bool true)), (29, undef), (26, (Value.bool true)), (28, undef), (26, (Value.bool true)), (27, undef), (26, (Value.bool true)), (26, v204), (25, v204), (24, undef), (21, (Value.tuple c52)), (23, undef), (21, (Value.tuple c52)), (22, undef), (21, (Value.tuple c52)), (21, v49), (20, v49), (19, undef), (15, (Value.bool true)), (18, undef), (15, (Value.bool true)), (17, undef), (15, (Value.bool true)), (16, undef), (15, (Value.bool true)), (15, v43), (14, v43), (13, v40), (12, v37), (11, v30), (10, v27), (4, v20), (9, v17), (8, v14), (7, v11), (3, (Go.Value.int Go.IntKind.i64 0)), (2, (Go.Value.int Go.IntKind.i64 0)), (1, v3)]) h24 k)
  (cFieldAddr 2 v3 fun v213 =>
  cLoad1 (.int .i64) v213 h24 fun v216 =>
  cLoad1 (.int .i64) v20 h24 fun v219 =>
  cBin EK .geq 3 v216 v219 fun v222 =>
  cPick (Value.bool false) (Go.Value.bool true) v222 fun v225 =>
  g67_C1 call lf (updL σ [(31, v225), (30, v222), (26, (Value.bool false)), (29, v219), (26, (Value.bool false)), (28, v216), (26, (Value.bool false)), (27, v213), (26, (Value.bool false)), (26, v204), (25, v204), (24, undef), (21, (Value.tuple c52)), (23, undef), (21, (Value.tuple c52)), (22, undef), (21, (Value.tuple c52)), (21, v49), (20, v49), (19, undef), (15, (Value.bool true)), (18, undef), (15, (Value.bool true)), (17, undef), (15, (Value.bool true)), (16, undef), (15, (Value.bool true)), (15, v43), (14, v43), (13, v40), (12, v37), (11, v30), (10, v27), (4, v20), (9, v17), (8, v14), (7, v11), (3, (Go.Value.int Go.IntKind.i64 0)), (2, (Go.Value.int Go.IntKind.i64 0)), (1, v3)]) h24 k)
  (fun c207 => cPick (Value.tuple c207) (Go.Value.bool true) undef fun v228 =>
  g67_C1 call lf (updL σ [(31, v228), (30, undef), (26, (Value.tuple c207)), (29, undef), (26, (Value.tuple c207)), (28, undef), (26, (Value.tuple c207)), (27, undef), (26, (Value.tuple c207)), (26, v204), (25, v204), (24, undef), (21, (Value.tuple c52)), (23, undef), (21, (Value.tuple c52)), (22, undef), (21, (Value.tuple c52)), (21, v49), (20, v49), (19, undef), (15, (Value.bool true)), (18, undef), (15, (Value.bool true)), (17, undef), (15, (Value.bool true)), (16, undef), (15, (Value.bool true)), (15, v43), (14, v43), (13, v40), (12, v37), (11, v30), (10, v27), (4, v20), (9, v17), (8, v14), (7, v11), (3, (Go.Value.int Go.IntKind.i64 0)), (2, (Go.Value.int Go.IntKind.i64 0)), (1, v3)]) h24 k)))
  (cFieldAddr 1 v3 fun v231 =>
  cLoad1 (.int .i64) v231 h24 fun v234 =>
  cLoad1 (.int .i64) v20 h24 fun v237 =>
  cBin EK .geq 3 v234 v237 fun v240 =>
  cPick (Value.bool false) (Go.Value.bool true) v240 fun v243 =>
  gd v243
  (cPick (Value.bool true) (Go.Value.bool true) undef fun v249 =>
  gd v249
  (cPick (Value.bool true) (Go.Value.bool true) undef fun v255 =>
  g67_C1 call lf (updL σ [(31, v255), (30, undef), (26, (Value.bool true)), (29, undef), (26, (Value.bool true)), (28, undef), (26, (Value.bool true)), (27, undef), (26, (Value.bool true)), (26, v249), (25, v249), (24, undef), (21, (Value.bool true)), (23, undef), (21, (Value.bool true)), (22, undef), (21, (Value.bool true)), (21, v243), (20, v243), (19, v240), (15, (Value.bool false)), (18, v237), (15, (Value.bool false)), (17, v234), (15, (Value.bool false)), (16, v231), (15, (Value.bool false)), (15, v43), (14, v43), (13, v40), (12, v37), (11, v30), (10, v27), (4, v20), (9, v17), (8, v14), (7, v11), (3, (Go.Value.int Go.IntKind.i64 0)), (2, (Go.Value.int Go.IntKind.i64 0)), (1, v3)]) h24 k)
  (cFieldAddr 2 v3 fun v258 =>
  cLoad1 (.int .i64) v258 h24 fun v261 =>
  cLoad1 (.int .i64) v20 h24 fun v264 =>
  cBin EK .geq 3 v261 v264 fun v267 =>
  cPick (Value.bool false) (Go.Value.bool true) v267 fun v270 =>
  g67_C1 call lf (updL σ [(31, v270), (30, v267), (26, (Value.bool false)), (29, v264), (26, (Value.bool false)), (28, v261), (26, (Value.bool false)), (27, v258), (26, (Value.bool false)), (26, v249), (25, v249), (24, undef), (21, (Value.bool true)), (23, undef), (21, (Value.bool true)), (22, undef), (21, (Value.bool true)), (21, v243), (20, v243), (19, v240), (15, (Value.bool false)), (18, v237), (15, (Value.bool false)), (17, v234), (15, (Value.bool false)), (16, v231), (15, (Value.bool false)), (15, v43), (14, v43), (13, v40), (12, v37), (11, v30), (10, v27), (4, v20), (9, v17), (8, v14), (7, v11), (3, (Go.Value.int Go.IntKind.i64 0)), (2, (Go.Value.int Go.IntKind.i64 0)), (1, v3)]) h24 k)
  (fun c252 => cPick (Value.tuple c252) (Go.Value.bool true) undef fun v273 =>
  g67_C1 call lf (updL σ [(31, v273), (30, undef), (26, (Value.tuple c252)), (29, undef), (26, (Value.tuple c252)), (28, undef), (26, (Value.tuple c252)), (27, undef), (26, (Value.tuple c252)), (26, v249), (25, v249), (24, undef), (21, (Value.bool true)), (23, undef), (21, (Value.bool true)), (22, undef), (21, (Value.bool true)), (21, v243), (20, v243), (19, v240), (15, (Value.bool false)), (18, v237), (15, (Value.bool false)), (17, v234), (15, (Value.bool false)), (16, v231), (15, (Value.bool false)), (15, v43), (14, v43), (13, v40), (12, v37), (11, v30), (10, v27), (4, v20), (9, v17), (8, v14), (7, v11), (3, (Go.Value.int Go.IntKind.i64 0)), (2, (Go.Value.int Go.IntKind.i64 0)), (1, v3)]) h24 k))
  (cFieldAddr 2 v3 fun v276 =>
  cLoad1 (.int .i64) v276 h24 fun v279 =>
  cBin EK .lss 3 v279 (Go.Value.int Go.IntKind.i64 0) fun v282 =>
  cPick (Value.bool false) (Go.Value.bool true) v282 fun v285 =>
  gd v285
  (cPick (Value.bool true) (Go.Value.bool true) undef fun v291 =>
  g67_C1 call lf (updL σ [(31, v291), (30, undef), (26, (Value.bool true)), (29, undef), (26, (Value.bool true)), (28, undef), (26, (Value.bool true)), (27, undef), (26, (Value.bool true)), (26, v285), (25, v285), (24, v282), (21, (Value.bool false)), (23, v279), (21, (Value.bool false)), (22, v276), (21, (Value.bool false)), (21, v243), (20, v243), (19, v240), (15, (Value.bool false)), (18, v237), (15, (Value.bool false)), (17, v234), (15, (Value.bool false)), (16, v231), (15, (Value.bool false)), (15, v43), (14, v43), (13, v40), (12, v37), (11, v30), (10, v27), (4, v20), (9, v17), (8, v14), (7, v11), (3, (Go.Value.int Go.IntKind.i64 0)), (2, (Go.Value.int Go.IntKind.i64 0)), (1, v3)]) h24 k)
  (cFieldAddr 2 v3 fun v294 =>
  cLoad1 (.int .i64) v294 h24 fun v297 =>
  cLoad1 (.int .i64) v20 h24 fun v300 =>
  cBin EK .geq 3 v297 v300 fun v303 =>
  cPick (Value.bool false) (Go.Value.bool true) v303 fun v306 =>
  g67_C1 call lf (updL σ [(31, v306), (30, v303), (26, (Value.bool false)), (29, v300), (26, (Value.bool false)), (28, v297), (26, (Value.bool false)), (27, v294), (26, (Value.bool false)), (26, v285), (25, v285), (24, v282), (21, (Value.bool false)), (23, v279), (21, (Value.bool false)), (22, v276), (21, (Value.bool false)), (21, v243), (20, v243), (19, v240), (15, (Value.bool false)), (18, v237), (15, (Value.bool false)), (17, v234), (15, (Value.bool false)), (16, v231), (15, (Value.bool false)), (15, v43), (14, v43), (13, v40), (12, v37), (11, v30), (10, v27), (4, v20), (9, v17), (8, v14), (7, v11), (3, (Go.Value.int Go.IntKind.i64 0)), (2, (Go.Value.int Go.IntKind.i64 0)), (1, v3)]) h24 k)
  (fun c288 => cPick (Value.tuple c288) (Go.Value.bool true) undef fun v309 =>
  g67_C1 call lf (updL σ [(31, v309), (30, undef), (26, (Value.tuple c288)), (29, undef), (26, (Value.tuple c288)), (28, undef), (26, (Value.tuple c288)), (27, undef), (26, (Value.tuple c288)), (26, v285), (25, v285), (24, v282), (21, (Value.bool false)), (23, v279), (21, (Value.bool false)), (22, v276), (21, (Value.bool false)), (21, v243), (20, v243), (19, v240), (15, (Value.bool false)), (18, v237), (15, (Value.bool false)), (17, v234), (15, (Value.bool false)), (16, v231), (15, (Value.bool false)), (15, v43), (14, v43), (13, v40), (12, v37), (11, v30), (10, v27), (4, v20), (9, v17), (8, v14), (7, v11), (3, (Go.Value.int Go.IntKind.i64 0)), (2, (Go.Value.int Go.IntKind.i64 0)), (1, v3)]) h24 k))
  (fun c246 => cPick (Value.tuple c246) (Go.Value.bool true) undef fun v312 =>
  gd v312
  (cPick (Value.bool true) (Go.Value.bool true) undef fun v318 =>
  g67_C1 call lf (updL σ [(31, v318), (30, undef), (26, (Value.bool true)), (29, undef), (26, (Value.bool true)), (28, undef), (26, (Value.bool true)), (27, undef), (26, (Value.bool true)), (26, v312), (25, v312), (24, undef), (21, (Value.tuple c246)), (23, undef), (21, (Value.tuple c246)), (22, undef), (21, (Value.tuple c246)), (21, v243), (20, v243), (19, v240), (15, (Value.bool false)), (18, v237), (15, (Value.bool false)), (17, v234), (15, (Value.bool false)), (16, v231), (15, (Value.bool false)), (15, v43), (14, v43), (13, v40), (12, v37), (11, v30), (10, v27), (4, v20), (9, v17), (8, v14), (7, v11), (3, (Go.Value.int Go.IntKind.i64 0)), (2, (Go.Value.int Go.IntKind.i64 0)), (1, v3)]) h24 k)
  (cFieldAddr 2 v3 fun v321 =>
  cLoad1 (.int .i64) v321 h24 fun v324 =>
  cLoad1 (.int .i64) v20 h24 fun v327 =>
  cBin EK .geq 3 v324 v327 fun v330 =>
  cPick (Value.bool false) (Go.Value.bool true) v330 fun v333 =>
  g67_C1 call lf (updL σ [(31, v333), (30, v330), (26, (Value.bool false)), (29, v327), (26, (Value.bool false)), (28, v324), (26, (Value.bool false)), (27, v321), (26, (Value.bool false)), (26, v312), (25, v312), (24, undef), (21, (Value.tuple c246)), (23, undef), (21, (Value.tuple c246)), (22, undef), (21, (Value.tuple c246)), (21, v243), (20, v243), (19, v240), (15, (Value.bool false)), (18, v237), (15, (Value.bool false)), (17, v234), (15, (Value.bool false)), (16, v231), (15, (Value.bool false)), (15, v43), (14, v43), (13, v40), (12, v37), (11, v30), (10, v27), (4, v20), (9, v17), (8, v14), (7, v11), (3, (Go.Value.int Go.IntKind.i64 0)), (2, (Go.Value.int Go.IntKind.i64 0)), (1, v3)]) h24 k)
  (fun c315 => cPick (Value.tuple c315) (Go.Value.bool true) undef fun v336 =>
  g67_C1 call lf (updL σ [(31, v336), (30, undef), (26, (Value.tuple c315)), (29, undef), (26, (Value.tuple c315)), (28, undef), (26, (Value.tuple c315)), (27, undef), (26, (Value.tuple c315)), (26, v312), (25, v312), (24, undef), (21, (Value.tuple c246)), (23, undef), (21, (Value.tuple c246)), (22, undef), (21, (Value.tuple c246)), (21, v243), (20, v243), (19, v240), (15, (Value.bool false)), (18, v237), (15, (Value.bool false)), (17, v234), (15, (Value.bool false)), (16, v231), (15, (Value.bool false)), (15, v43), (14, v43), (13, v40), (12, v37), (11, v30), (10, v27), (4, v20), (9, v17), (8, v14), (7, v11), (3, (Go.Value.int Go.IntKind.i64 0)), (2, (Go.Value.int Go.IntKind.i64 0)), (1, v3)]) h24 k)))
  (fun c46 => cPick (Value.tuple c46) (Go.Value.bool true) undef fun v339 =>
  gd v339
  (cPick (Value.bool true) (Go.Value.bool true) undef fun v345 =>
  gd v345
  (cPick (Value.bool true) (Go.Value.bool true) undef fun v351 =>
  g67_C1 call lf (updL σ [(31, v351), (30, undef), (26, (Value.bool true)), (29, undef), (26, (Value.bool true)), (28, undef), (26, (Value.bool true)), (27, undef), (26, (Value.bool true)), (26, v345), (25, v345), (24, undef), (21, (Value.bool true)), (23, undef), (21, (Value.bool true)), (22, undef), (21, (Value.bool true)), (21, v339), (20, v339), (19, undef), (15, (Value.tuple c46)), (18, undef), (15, (Value.tuple c46)), (17, undef), (15, (Value.tuple c46)), (16, undef), (15, (Value.tuple c46)), (15, v43), (14, v43), (13, v40), (12, v37), (11, v30), (10, v27), (4, v20), (9, v17), (8, v14), (7, v11), (3, (Go.Value.int Go.IntKind.i64 0)), (2, (Go.Value.int Go.IntKind.i64 0)), (1, v3)]) h24 k)
  (cFieldAddr 2 v3 fun v354 =>
  cLoad1 (.int .i64) v354 h24 fun v357 =>
  cLoad1 (.int .i64) v20 h24 fun v360 =>
  cBin EK .geq 3 v357 v360 fun v363 =>
  cPick (Value.bool false) (Go.Value.bool true) v363 fun v366 =>
  g67_C1 call lf (updL σ [(31, v366), (30, v363), (26, (Value.bool false)), (29, v360), (26, (Value.bool false)), (28, v357), (26, (Value.bool false)), (27, v354), (26, (Value.bool false)), (26, v345), (25, v345), (24, undef), (21, (Value.bool true)), (23, undef), (21, (Value.bool true)), (22, undef), (21, (Value.bool true)), (21, v339), (20, v339), (19, undef), (15, (Value.tuple c46)), (18, undef), (15, (Value.tuple c46)), (17, undef), (15, (Value.tuple c46)), (16, undef), (15, (Value.tuple c46)), (15, v43), (14, v43), (13, v40), (12, v37), (11, v30), (10, v27), (4, v20), (9, v17), (8, v14), (7, v11), (3, (Go.Value.int Go.IntKind.i64 0)), (2, (Go.Value.int Go.IntKind.i64 0)), (1, v3)]) h24 k)
  (fun c348 => cPick (Value.tuple c348) (Go.Value.bool true) undef fun v369 =>
  g67_C1 call lf (updL σ [(31, v369), (30, undef), (26, (Value.tuple c348)), (29, undef), (26, (Value.tuple c348)), (28, undef), (26, (Value.tuple c348)), (27, undef), (26, (Value.tuple c348)), (26, v345), (25, v345), (24, undef), (21, (Value.bool true)), (23, undef), (21, (Value.bool true)), (22, undef), (21, (Value.bool true)), (21, v339), (20, v339), (19, undef), (15, (Value.tuple c46)), (18, undef), (15, (Value.tuple c46)), (17, undef), (15, (Value.tuple c46)), (16, undef), (15, (Value.tuple c46)), (15, v43), (14, v43), (13, v40), (12, v37), (11, v30), (10, v27), (4, v20), (9, v17), (8, v14), (7, v11), (3, (Go.Value.int Go.IntKind.i64 0)), (2, (Go.Value.int Go.IntKind.i64 0)), (1, v3)]) h24 k))
  (cFieldAddr 2 v3 fun v372 =>
  cLoad1 (.int .i64) v372 h24 fun v375 =>
  cBin EK .lss 3 v375 (Go.Value.int Go.IntKind.i64 0) fun v378 =>
  cPick (Value.bool false) (Go.Value.bool true) v378 fun v381 =>
  gd v381
  (cPick (Value.bool true) (Go.Value.bool true) undef fun v387 =>
  g67_C1 call lf (updL σ [(31, v387), (30, undef), (26, (Value.bool true)), (29, undef), (26, (Value.bool true)), (28, undef), (26, (Value.bool true)), (27, undef), (26, (Value.bool true)), (26, v381), (25, v381), (24, v378), (21, (Value.bool false)), (23, v375), (21, (Value.bool false)), (22, v372), (21, (Value.bool false)), (21, v339), (20, v339), (19, undef), (15, (Value.tuple c46)), (18, undef), (15, (Value.tuple c46)), (17, undef), (15, (Value.tuple c46)), (16, undef), (15, (Value.tuple c46)), (15, v43), (14, v43), (13, v40), (12, v37), (11, v30), (10, v27), (4, v20), (9, v17), (8, v14), (7, v11), (3, (Go.Value.int Go.IntKind.i64 0)), (2, (Go.Value.int Go.IntKind.i64 0)), (1, v3)]) h24 k)
  (cFieldAddr 2 v3 fun v390 =>
  cLoad1 (.int .i64) v390 h24 fun v393 =>
  cLoad1 (.int .i64) v20 h24 fun v396 =>
  cBin EK .geq 3 v393 v396 fun v399 =>
  cPick (Value.bool false) (Go.Value.bool true) v399 fun v402 =>
  g67_C1 call lf (updL σ [(31, v402), (30, v399), (26, (Value.bool false)), (29, v396), (26, (Value.bool false)), (28, v393), (26, (Value.bool false)), (27, v390), (26, (Value.bool false)), (26, v381), (25, v381), (24, v378), (21, (Value.bool false)), (23, v375), (21, (Value.bool false)), (22, v372), (21, (Value.bool false)), (21, v339), (20, v339), (19, undef), (15, (Value.tuple c46)), (18, undef), (15, (Value.tuple c46)), (17, undef), (15, (Value.tuple c46)), (16, undef), (15, (Value.tuple c46)), (15, v43), (14, v43), (13, v40), (12, v37), (11, v30), (10, v27), (4, v20), (9, v17), (8, v14), (7, v11), (3, (Go.Value.int Go.IntKind.i64 0)), (2, (Go.Value.int Go.IntKind.i64 0)), (1, v3)]) h24 k)
  (fun c384 => cPick (Value.tuple c384) (Go.Value.bool true) undef fun v405 =>
  g67_C1 call lf (updL σ [(31, v405), (30, undef), (26, (Value.tuple c384)), (29, undef), (26, (Value.tuple c384)), (28, undef), (26, (Value.tuple c384)), (27, undef), (26, (Value.tuple c384)), (26, v381), (25, v381), (24, v378), (21, (Value.bool false)), (23, v375), (21, (Value.bool false)), (22, v372), (21, (Value.bool false)), (21, v339), (20, v339), (19, undef), (15, (Value.tuple c46)), (18, undef), (15, (Value.tuple c46)), (17, undef), (15, (Value.tuple c46)), (16, undef), (15, (Value.tuple c46)), (15, v43), (14, v43), (13, v40), (12, v37), (11, v30), (10, v27), (4, v20), (9, v17), (8, v14), (7, v11), (3, (Go.Value.int Go.IntKind.i64 0)), (2, (Go.Value.int Go.IntKind.i64 0)), (1, v3)]) h24 k))
  (fun c342 => cPick (Value.tuple c342) (Go.Value.bool true) undef fun v408 =>
  gd v408
  (cPick (Value.bool true) (Go.Value.bool true) undef fun v414 =>
  g67_C1 call lf (updL σ [(31, v414), (30, undef), (26, (Value.bool true)), (29, undef), (26, (Value.bool true)), (28, undef), (26, (Value.bool true)), (27, undef), (26, (Value.bool true)), (26, v408), (25, v408), (24, undef), (21, (Value.tuple c342)), (23, undef), (21, (Value.tuple c342)), (22, undef), (21, (Value.tuple c342)), (21, v339), (20, v339), (19, undef), (15, (Value.tuple c46)), (18, undef), (15, (Value.tuple c46)), (17, undef), (15, (Value.tuple c46)), (16, undef), (15, (Value.tuple c46)), (15, v43), (14, v43), (13, v40), (12, v37), (11, v30), (10, v27), (4, v20), (9, v17), (8, v14), (7, v11), (3, (Go.Value.int Go.IntKind.i64 0)), (2, (Go.Value.int Go.IntKind.i64 0)), (1, v3)]) h24 k)
  (cFieldAddr 2 v3 fun v417 =>
  cLoad1 (.int .i64) v417 h24 fun v420 =>
  cLoad1 (.int .i64) v20 h24 fun v423 =>
  cBin EK .geq 3 v420 v423 fun v426 =>
  cPick (Value.bool false) (Go.Value.bool true) v426 fun v429 =>
  g67_C1 call lf (updL σ [(31, v429), (30, v426), (26, (Value.bool false)), (29, v423), (26, (Value.bool false)), (28, v420), (26, (Value.bool false)), (27, v417), (26, (Value.bool false)), (26, v408), (25, v408), (24, undef), (21, (Value.tuple c342)), (23, undef), (21, (Value.tuple c342)), (22, undef), (21, (Value.tuple c342)), (21, v339), (20, v339), (19, undef), (15, (Value.tuple c46)), (18, undef), (15, (Value.tuple c46)), (17, undef), (15, (Value.tuple c46)), (16, undef), (15, (Value.tuple c46)), (15, v43), (14, v43), (13, v40), (12, v37), (11, v30), (10, v27), (4, v20), (9, v17), (8, v14), (7, v11), (3, (Go.Value.int Go.IntKind.i64 0)), (2, (Go.Value.int Go.IntKind.i64 0)), (1, v3)]) h24 k)
  (fun c411 => cPick (Value.tuple c411) (Go.Value.bool true) undef fun v432 =>
  g67_C1 call lf (updL σ [(31, v432), (30, undef), (26, (Value.tuple c411)), (29, undef), (26, (Value.tuple c411)), (28, undef), (26, (Value.tuple c411)), (27, undef), (26, (Value.tuple c411)), (26, v408), (25, v408), (24, undef), (21, (Value.tuple c342)), (23, undef), (21, (Value.tuple c342)), (22, undef), (21, (Value.tuple c342)), (21, v339), (20, v339), (19, undef), (15, (Value.tuple c46)), (18, undef), (15, (Value.tuple c46)), (17, undef), (15, (Value.tuple c46)), (16, undef), (15, (Value.tuple c46)), (15, v43), (14, v43), (13, v40), (12, v37), (11, v30), (10, v27), (4, v20), (9, v17), (8, v14), (7, v11), (3, (Go.Value.int Go.IntKind.i64 0)), (2, (Go.Value.int Go.IntKind.i64 0)), (1, v3)]) h24 k))))
theorem g67_eq (call : Call) (lf : Nat) (args : List Value) (h : AHeap) : evB EK call lf 67 args h = g67 call lf (st0 args) h (finS EK [.tmp 2, .tmp 3]) := by kernel_rfl
theorem c67 (call : Call) (args : List Value) (h : AHeap) (K kp : K2) : evCall EK call 67 args h K kp = cCall call 67 args [(false, [.int .i64]), (false, [.int .i64])] h K kp := by kernel_rfl
-- "kerf/nfa.Longest"
noncomputable def g68 (call : Call) (lf : Nat) (σ : St) (h : AHeap) (k : KS) : Option Ans :=
  cNew (σ 0).cells.toList 67 h fun v3 h4 =>
  cLoadA [.slc, .int .i64, .int .i64] v3 h4 fun v11 =>
  cCall call 38 [v11, (σ 1), (σ 2)] [(false, [.slc])] h4 (fun v18 h19 =>
  cLenS v18 fun v26 =>
  cBin EK .eql 3 v26 (Go.Value.int Go.IntKind.i64 0) fun v29 =>
  cIf v29
  (k .ret (updL σ [(7, (Go.Value.bool false)), (6, (Go.Value.int Go.IntKind.i64 0)), (15, v29), (14, v26), (13, v18), (8, v18), (12, v18), (11, (σ 2)), (10, (σ 1)), (9, v11), (7, (Go.Value.bool false)), (6, (Go.Value.int Go.IntKind.i64 0)), (3, v3)]) h19)
  (cLenS v18 fun v40 =>
  cBin EK .sub 3 v40 (Go.Value.int Go.IntKind.i64 1) fun v43 =>
  cIdxS 1 v18 v43 fun v46 =>
  cLoad1 (.int .i64) v46 h19 fun v49 =>
  k .ret (updL σ [(7, (Go.Value.bool true)), (6, v49), (21, v49), (20, v46), (19, v43), (18, v40), (17, v18), (16, v18), (15, v29), (14, v26), (13, v18), (8, v18), (12, v18), (11, (σ 2)), (10, (σ 1)), (9, v11), (7, (Go.Value.bool false)), (6, (Go.Value.int Go.IntKind.i64 0)), (3, v3)]) h19)) (fun v16 h17 => k (.panic v16) (updL σ [(11, (σ 2)), (10, (σ 1)), (9, v11), (7, (Go.Value.bool false)), (6, (Go.Value.int Go.IntKind.i64 0)), (3, v3)]) h17)
theorem g68_eq (call : Call) (lf : Nat) (args : List Value) (h : AHeap) : evB EK call lf 68 args h = g68 call lf (st0 args) h (finS EK [.tmp 6, .tmp 7]) := by kernel_rfl
theorem c68 (call : Call) (args : List Value) (h : AHeap) (K kp : K2) : evCall EK call 68 args h K kp = cCall call 68 args [(false, [.int .i64]), (false, [.bool])] h K kp := by kernel_rfl
-- "kerf/nfa.Closure"
noncomputable def g69 (call : Call) (lf : Nat) (σ : St) (h : AHeap) (k : KS) : Option Ans :=
  cNew (σ 0).cells.toList 67 h fun v3 h4 =>
  cLoadA [.slc, .int .i64, .int .i64] v3 h4 fun v9 =>
  cCall call 72 [v9] [(false, [.bool])] h4 (fun v12 h13 =>
  cUn .not v12 fun v16 =>
  cIf v16
  (k .ret (updL σ [(4, (Go.Value.slice none 0 0)), (7, v16), (6, v12), (5, v9), (4, (Go.Value.slice none 0 0)), (2, v3)]) h13)
  (cLoadA [.slc, .int .i64, .int .i64] v3 h13 fun v21 =>
  cCall call 73 [v21, (σ 1)] [(false, [.slc])] h13 (fun v26 h27 =>
  k .ret (updL σ [(4, v26), (10, v26), (9, (σ 1)), (8, v21), (7, v16), (6, v12), (5, v9), (4, (Go.Value.slice none 0 0)), (2, v3)]) h27) (fun v24 h25 => k (.panic v24) (updL σ [(9, (σ 1)), (8, v21), (7, v16), (6, v12), (5, v9), (4, (Go.Value.slice none 0 0)), (2, v3)]) h25))) (fun v10 h11 => k (.panic v10) (updL σ [(5, v9), (4, (Go.Value.slice none 0 0)), (2, v3)]) h11)
theorem g69_eq (call : Call) (lf : Nat) (args : List Value) (h : AHeap) : evB EK call lf 69 args h = g69 call lf (st0 args) h (finS EK [.tmp 4]) := by kernel_rfl
theorem c69 (call : Call) (args : List Value) (h : AHeap) (K kp : K2) : evCall EK call 69 args h K kp = cCall call 69 args [(false, [.slc])] h K kp := by kernel_rfl
-- "slices.Contains[[]int,int]"
noncomputable def g70 (call : Call) (lf : Nat) (σ : St) (h : AHeap) (k : KS) : Option Ans :=
  cCall call 110 [(σ 0), (σ 1)] [(false, [.int .i64])] h (fun v9 h10 =>
  cBin EK .geq 3 v9 (Go.Value.int Go.IntKind.i64 0) fun v13 =>
  k .ret (updL σ [(4, v13), (8, v13), (7, v9), (6, (σ 1)), (5, (σ 0)), (4, (Go.Value.bool false))]) h10) (fun v7 h8 => k (.panic v7) (updL σ [(6, (σ 1)), (5, (σ 0)), (4, (Go.Value.bool false))]) h8)
theorem g70_eq (call : Call) (lf : Nat) (args : List Value) (h : AHeap) : evB EK call lf 70 args h = g70 call lf (st0 args) h (finS EK [.tmp 4]) := by kernel_rfl
theorem c70 (call : Call) (args : List Value) (h : AHeap) (K kp : K2) : evCall EK call 70 args h K kp = cCall call 70 args [(false, [.bool])] h K kp := by kernel_rfl
-- "kerf/nfa.good"
noncomputable def g72 (call : Call) (lf : Nat) (σ : St) (h : AHeap) (k : KS) : Option Ans :=
  cNew (σ 0).cells.toList 67 h fun v3 h4 =>
  cLoadA [.slc, .int .i64, .int .i64] v3 h4 fun v9 =>
  cCall call 67 [v9] [(false, [.int .i64]), (false, [.int .i64])] h4 (fun v12 h13 =>
  cExtract v12 0 fun v18 =>
  cExtract v12 1 fun v21 =>
  cBin EK .eql 37 v18 (Go.Value.int Go.IntKind.i64 0) fun v30 =>
  k .ret (updL σ [(2, v30), (11, v30), (10, v18), (4, v21), (3, v18), (9, v21), (8, v18), (5, v12), (7, v12), (6, v9), (2, (Go.Value.bool false)), (1, v3)]) h13) (fun v10 h11 => k (.panic v10) (updL σ [(6, v9), (2, (Go.Value.bool false)), (1, v3)]) h11)
theorem g72_eq (call : Call) (lf : Nat) (args : List Value) (h : AHeap) : evB EK call lf 72 args h = g72 call lf (st0 args) h (finS EK [.tmp 2]) := by kernel_rfl
theorem c72 (call : Call) (args : List Value) (h : AHeap) (K kp : K2) : evCall EK call 72 args h K kp = cCall call 72 args [(false, [.bool])] h K kp := by kernel_rfl
-- "kerf/nfa.closed"
noncomputable def g73_L1 (call : Call) (lf : Nat) (σ : St) (h : AHeap) (k : KS) : Option Ans :=
  cBin EK .lss 3 (σ 20) (σ 19) fun v44 =>
  cIf v44
  (cIdxS 1 (σ 18) (σ 20) fun v47 =>
  cLoad1 (.int .i64) v47 h fun v50 =>
  cCallV EK call (σ 7) [v50] h (fun v59 h60 =>
  cBin EK .add 3 (σ 20) (Go.Value.int Go.IntKind.i64 1) fun v63 =>
  k .normal (updL σ [(20, v63), (27, v63), (26, v59), (25, v50), (24, (σ 7)), (9, v50), (23, v50), (22, v47), (21, v44)]) h60) (fun v57 h58 => k (.panic v57) (updL σ [(25, v50), (24, (σ 7)), (9, v50), (23, v50), (22, v47), (21, v44)]) h58))
  (k (.exit 0) (updL σ [(21, v44)]) h)
noncomputable def g73_L4 (call : Call) (lf : Nat) (σ : St) (h : AHeap) (k : KS) : Option Ans :=
  cBin EK .lss 3 (σ 43) (σ 42) fun v119 =>
  cIf v119
  (cIdxS 1 (σ 41) (σ 43) fun v122 =>
  cLoad1 (.int .i64) v122 h fun v125 =>
  cCallV EK call (σ 7) [v125] h (fun v134 h135 =>
  cBin EK .add 3 (σ 43) (Go.Value.int Go.IntKind.i64 1) fun v138 =>
  k .normal (updL σ [(43, v138), (50, v138), (49, v134), (48, v125), (47, (σ 7)), (12, v125), (46, v125), (45, v122), (44, v119)]) h135) (fun v132 h133 => k (.panic v132) (updL σ [(48, v125), (47, (σ 7)), (12, v125), (46, v125), (45, v122), (44, v119)]) h133))
  (k (.exit 4) (updL σ [(44, v119)]) h)
noncomputable def g73_L3 (call : Call) (lf : Nat) (σ : St) (h : AHeap) (k : KS) : Option Ans :=
  cLoad1 (.slc) (σ 6) h fun v68 =>
  cLenS v68 fun v71 =>
  cBin EK .gtr 3 v71 (Go.Value.int Go.IntKind.i64 0) fun v74 =>
  cIf v74
  (cLoad1 (.slc) (σ 6) h fun v77 =>
  cIdxS 1 v77 (Go.Value.int Go.IntKind.i64 0) fun v80 =>
  cLoad1 (.int .i64) v80 h fun v83 =>
  cLoad1 (.slc) (σ 6) h fun v88 =>
  cSliceS 1 v88 (some (Go.Value.int Go.IntKind.i64 1)) none none h fun v91 =>
  cStore 1 (σ 6) v91 h fun h94 =>
  cFieldAddr 0 (σ 2) fun v97 =>
  cLoad1 (.slc) v97 h94 fun v100 =>
  cIdxS 2 v100 v83 fun v105 =>
  cFieldAddr 1 v105 fun v108 =>
  cLoad1 (.slc) v108 h94 fun v111 =>
  cLenS v111 fun v114 =>
  loopS (g73_L4 call lf) lf (updL σ [(43, (Go.Value.int Go.IntKind.i64 0)), (42, v114), (41, v111), (40, v108), (39, v105), (38, v83), (37, v100), (36, v97), (35, v91), (34, v88), (10, v83), (33, v83), (32, v80), (31, v77), (30, v74), (29, v71), (28, v68)]) h94 (hBlk 4 (hBlk 3 k)))
  (k (.exit 2) (updL σ [(30, v74), (29, v71), (28, v68)]) h)
noncomputable def g73_C5 (call : Call) (lf : Nat) (σ : St) (h : AHeap) (k : KS) : Option Ans :=
  cLoad1 (.slc) (σ 5) h fun v143 =>
  cCall call 112 [v143] [(false, [.slc])] h (fun v146 h147 =>
  k .ret (updL σ [(4, v146), (52, v146), (51, v143)]) h147) (fun v144 h145 => k (.panic v144) (updL σ [(51, v143)]) h145)
noncomputable def g73_C2 (call : Call) (lf : Nat) (σ : St) (h : AHeap) (k : KS) : Option Ans :=
  loopS (g73_L3 call lf) lf σ h (hBlk 2 (hSeq (fun σ h => g73_C5 call lf σ h k) k))
noncomputable def g73 (call : Call) (lf : Nat) (σ : St) (h : AHeap) (k : KS) : Option Ans :=
  cNew (σ 0).cells.toList 67 h fun v3 h4 =>
  cFieldAddr 0 v3 fun v9 =>
  cLoad1 (.slc) v9 h4 fun v12 =>
  cLenS v12 fun v15 =>
  cMakeS 4 [(.bool false)] 1 v15 v15 h4 fun v18 h19 =>
  cNew [(.slice none 0 0)] 161 h19 fun v22 h23 =>
  cStore 1 v22 v18 h23 fun h26 =>
  cNew [(.slice none 0 0)] 52 h26 fun v29 h30 =>
  cLenS (σ 1) fun v39 =>
  loopS (g73_L1 call lf) lf (updL σ [(20, (Go.Value.int Go.IntKind.i64 0)), (19, v39), (18, (σ 1)), (7, (Value.func (.func 111) #[] #[v22, v29])), (17, (Value.func (.func 111) #[] #[v22, v29])), (6, v29), (5, v22), (16, v18), (15, v15), (14, v12), (13, v9), (4, (Go.Value.slice none 0 0)), (2, v3)]) h30 (hBlk 0 (hSeq (fun σ h => g73_C2 call lf σ h k) k))
theorem g73_eq (call : Call) (lf : Nat) (args : List Value) (h : AHeap) : evB EK call lf 73 args h = g73 call lf (st0 args) h (finS EK [.tmp 4]) := by kernel_rfl
theorem c73 (call : Call) (args : List Value) (h : AHeap) (K kp : K2) : evCall EK call 73 args h K kp = cCall call 73 args [(false, [.slc])] h K kp := by kernel_rfl
-- "kerf/nfa.stepped"
noncomputable def g74_C3 (call : Call) (lf : Nat) (σ : St) (h : AHeap) (k : KS) : Option Ans :=
  cBin EK .add 3 (σ 27) (Go.Value.int Go.IntKind.i64 1) fun v111 =>
  k .normal (updL σ [(27, v111), (44, v111)]) h
noncomputable def g74_L2 (call : Call) (lf : Nat) (σ : St) (h : AHeap) (k : KS) : Option Ans :=
  cBin EK .lss 3 (σ 27) (σ 26) fun v51 =>
  cIf v51
  (cIdxS 2 (σ 25) (σ 27) fun v54 =>
  cLoadA [.slc, .int .i64] v54 h fun v57 =>
  cNew [(.slice none 0 0), (.int .i64 (0))] 106 h fun v60 h61 =>
  cStore 2 v60 v57 h61 fun h64 =>
  cFieldAddr 0 v60 fun v67 =>
  cLoad1 (.slc) v67 h64 fun v70 =>
  cCall call 113 [v70, (σ 2)] [(false, [.int .i64]), (false, [.bool])] h64 (fun v75 h76 =>
  cExtract v75 0 fun v81 =>
  cExtract v75 1 fun v84 =>
  cIf v84
  (cFieldAddr 1 v60 fun v95 =>
  cLoad1 (.int .i64) v95 h76 fun v98 =>
  cBuildS 3 1 [(0, 1, v98)] [(.int .i64 (0))] h76 fun v101 h102 =>
  cAppend 3 1 8 (σ 7) v101 h102 fun v105 h106 =>
  g74_C3 call lf (updL σ [(7, v105), (43, v105), (42, v101), (41, v98), (40, v95), (39, (σ 7)), (38, v84), (13, v84), (12, v81), (37, v84), (36, v81), (31, v75), (35, v75), (34, (σ 2)), (33, v70), (32, v67), (11, v60), (30, v57), (29, v54), (28, v51)]) h106 k)
  (g74_C3 call lf (updL σ [(38, v84), (13, v84), (12, v81), (37, v84), (36, v81), (31, v75), (35, v75), (34, (σ 2)), (33, v70), (32, v67), (11, v60), (30, v57), (29, v54), (28, v51)]) h76 k)) (fun v73 h74 => k (.panic v73) (updL σ [(34, (σ 2)), (33, v70), (32, v67), (11, v60), (30, v57), (29, v54), (28, v51)]) h74))
  (k (.exit 2) (updL σ [(28, v51)]) h)
noncomputable def g74_C4 (call : Call) (lf : Nat) (σ : St) (h : AHeap) (k : KS) : Option Ans :=
  cBin EK .add 3 (σ 16) (Go.Value.int Go.IntKind.i64 1) fun v116 =>
  k .normal (updL σ [(16, v116), (45, v116)]) h
noncomputable def g74_L1 (call : Call) (lf : Nat) (σ : St) (h : AHeap) (k : KS) : Option Ans :=
  cBin EK .lss 3 (σ 16) (σ 15) fun v18 =>
  cIf v18
  (cIdxS 1 (σ 14) (σ 16) fun v21 =>
  cLoad1 (.int .i64) v21 h fun v24 =>
  cFieldAddr 0 (σ 3) fun v29 =>
  cLoad1 (.slc) v29 h fun v32 =>
  cIdxS 2 v32 v24 fun v37 =>
  cFieldAddr 0 v37 fun v40 =>
  cLoad1 (.slc) v40 h fun v43 =>
  cLenS v43 fun v46 =>
  loopS (g74_L2 call lf) lf (updL σ [(27, (Go.Value.int Go.IntKind.i64 0)), (26, v46), (25, v43), (24, v40), (23, v37), (22, v24), (21, v32), (20, v29), (9, v24), (19, v24), (18, v21), (17, v18)]) h (hBlk 2 (hBlk 1 (hSeq (fun σ h => g74_C4 call lf σ h k) k))))
  (k (.exit 0) (updL σ [(17, v18)]) h)
noncomputable def g74_C5 (call : Call) (lf : Nat) (σ : St) (h : AHeap) (k : KS) : Option Ans :=
  cLoadA [.slc, .int .i64, .int .i64] (σ 3) h fun v121 =>
  cCall call 73 [v121, (σ 7)] [(false, [.slc])] h (fun v126 h127 =>
  k .ret (updL σ [(6, v126), (48, v126), (47, (σ 7)), (46, v121)]) h127) (fun v124 h125 => k (.panic v124) (updL σ [(47, (σ 7)), (46, v121)]) h125)
noncomputable def g74 (call : Call) (lf : Nat) (σ : St) (h : AHeap) (k : KS) : Option Ans :=
  cNew (σ 0).cells.toList 67 h fun v3 h4 =>
  cLenS (σ 1) fun v13 =>
  loopS (g74_L1 call lf) lf (updL σ [(16, (Go.Value.int Go.IntKind.i64 0)), (15, v13), (14, (σ 1)), (7, (Go.Value.slice none 0 0)), (6, (Go.Value.slice none 0 0)), (3, v3)]) h4 (hBlk 0 (hSeq (fun σ h => g74_C5 call lf σ h k) k))
theorem g74_eq (call : Call) (lf : Nat) (args : List Value) (h : AHeap) : evB EK call lf 74 args h = g74 call lf (st0 args) h (finS EK [.tmp 6]) := by kernel_rfl
theorem c74 (call : Call) (args : List Value) (h : AHeap) (K kp : K2) : evCall EK call 74 args h K kp = cCall call 74 args [(false, [.slc])] h K kp := by kernel_rfl
-- "kerf/nfa.ahead"
noncomputable def g103_C4 (call : Call) (lf : Nat) (σ : St) (h : AHeap) (k : KS) : Option Ans :=
  cBin EK .add 3 (σ 41) (Go.Value.int Go.IntKind.i64 1) fun v153 =>
  k .normal (updL σ [(41, v153), (54, v153)]) h
noncomputable def g103_L3 (call : Call) (lf : Nat) (σ : St) (h : AHeap) (k : KS) : Option Ans :=
  cBin EK .lss 3 (σ 41) (σ 40) fun v107 =>
  cIf v107
  (cIdxS 2 (σ 39) (σ 41) fun v110 =>
  cLoadA [.slc, .int .i64] v110 h fun v113 =>
  cNew [(.slice none 0 0), (.int .i64 (0))] 106 h fun v116 h117 =>
  cStore 2 v116 v113 h117 fun h120 =>
  cFieldAddr 0 v116 fun v123 =>
  cLoad1 (.slc) v123 h120 fun v126 =>
  cLenS v126 fun v129 =>
  cBin EK .gtr 3 v129 (Go.Value.int Go.IntKind.i64 0) fun v132 =>
  cIf v132
  (cFieldAddr 1 v116 fun v137 =>
  cLoad1 (.int .i64) v137 h120 fun v140 =>
  cBuildS 3 1 [(0, 1, v140)] [(.int .i64 (0))] h120 fun v143 h144 =>
  cAppend 3 1 8 (σ 8) v143 h144 fun v147 h148 =>
  g103_C4 call lf (updL σ [(8, v147), (53, v147), (52, v143), (51, v140), (50, v137), (49, (σ 8)), (48, v132), (47, v129), (46, v126), (45, v123), (12, v116), (44, v113), (43, v110), (42, v107)]) h148 k)
  (g103_C4 call lf (updL σ [(48, v132), (47, v129), (46, v126), (45, v123), (12, v116), (44, v113), (43, v110), (42, v107)]) h120 k))
  (k (.exit 4) (updL σ [(42, v107)]) h)
noncomputable def g103_C5 (call : Call) (lf : Nat) (σ : St) (h : AHeap) (k : KS) : Option Ans :=
  cBin EK .add 3 (σ 30) (Go.Value.int Go.IntKind.i64 1) fun v158 =>
  k .normal (updL σ [(30, v158), (55, v158)]) h
noncomputable def g103_L2 (call : Call) (lf : Nat) (σ : St) (h : AHeap) (k : KS) : Option Ans :=
  cBin EK .lss 3 (σ 30) (σ 29) fun v74 =>
  cIf v74
  (cIdxS 1 (σ 28) (σ 30) fun v77 =>
  cLoad1 (.int .i64) v77 h fun v80 =>
  cFieldAddr 0 (σ 5) fun v85 =>
  cLoad1 (.slc) v85 h fun v88 =>
  cIdxS 2 v88 v80 fun v93 =>
  cFieldAddr 0 v93 fun v96 =>
  cLoad1 (.slc) v96 h fun v99 =>
  cLenS v99 fun v102 =>
  loopS (g103_L3 call lf) lf (updL σ [(41, (Go.Value.int Go.IntKind.i64 0)), (40, v102), (39, v99), (38, v96), (37, v93), (36, v80), (35, v88), (34, v85), (10, v80), (33, v80), (32, v77), (31, v74)]) h (hBlk 4 (hBlk 3 (hSeq (fun σ h => g103_C5 call lf σ h k) k))))
  (k (.exit 2) (updL σ [(31, v74)]) h)
noncomputable def g103_C6 (call : Call) (lf : Nat) (σ : St) (h : AHeap) (k : KS) : Option Ans :=
  cLoadA [.slc, .int .i64, .int .i64] (σ 5) h fun v165 =>
  cCall call 73 [v165, (σ 8)] [(false, [.slc])] h (fun v170 h171 =>
  cBuildS 52 1 [(0, 1, v170)] [(.slice none 0 0)] h171 fun v174 h175 =>
  cAppend 52 1 24 (σ 6) v174 h175 fun v178 h179 =>
  cBin EK .add 3 (σ 22) (Go.Value.int Go.IntKind.i64 1) fun v184 =>
  k .normal (updL σ [(22, v184), (62, v184), (6, v178), (61, v178), (60, v174), (59, v170), (58, (σ 8)), (57, v165), (56, (σ 6))]) h179) (fun v168 h169 => k (.panic v168) (updL σ [(58, (σ 8)), (57, v165), (56, (σ 6))]) h169)
noncomputable def g103_C7 (call : Call) (lf : Nat) (σ : St) (h : AHeap) (k : KS) : Option Ans :=
  cBin EK .add 3 (σ 22) (Go.Value.int Go.IntKind.i64 1) fun v189 =>
  k .normal (updL σ [(22, v189), (62, v189)]) h
noncomputable def g103_L1 (call : Call) (lf : Nat) (σ : St) (h : AHeap) (k : KS) : Option Ans :=
  cBin EK .lss 3 (σ 22) (σ 21) fun v50 =>
  cIf v50
  (cIdxS 1 (σ 6) (σ 22) fun v63 =>
  cLoad1 (.slc) v63 h fun v66 =>
  cLenS v66 fun v69 =>
  loopS (g103_L2 call lf) lf (updL σ [(30, (Go.Value.int Go.IntKind.i64 0)), (29, v69), (28, v66), (27, v63), (26, (σ 22)), (25, (σ 6)), (8, (Go.Value.slice none 0 0)), (7, (σ 22)), (24, (σ 22)), (23, v50)]) h (hBlk 2 (hSeq (fun σ h => g103_C6 call lf σ h k) (hBlk 1 (hSeq (fun σ h => g103_C7 call lf σ h k) k)))))
  (k (.exit 0) (updL σ [(23, v50)]) h)
noncomputable def g103_C8 (call : Call) (lf : Nat) (σ : St) (h : AHeap) (k : KS) : Option Ans :=
  k .ret (updL σ [(4, (σ 6)), (63, (σ 6))]) h
noncomputable def g103 (call : Call) (lf : Nat) (σ : St) (h : AHeap) (k : KS) : Option Ans :=
  cNew (σ 0).cells.toList 67 h fun v3 h4 =>
  cLoadA [.slc, .int .i64, .int .i64] v3 h4 fun v9 =>
  cCall call 133 [v9] [(true, [.slc, .int .i64, .int .i64])] h4 (fun v12 h13 =>
  cNew [(.slice none 0 0), (.int .i64 (0)), (.int .i64 (0))] 67 h13 fun v16 h17 =>
  cStore 3 v16 v12 h17 fun h20 =>
  cLoadA [.slc, .int .i64, .int .i64] v16 h20 fun v23 =>
  cFieldAddr 1 v16 fun v26 =>
  cLoad1 (.int .i64) v26 h20 fun v29 =>
  cBuildS 3 1 [(0, 1, v29)] [(.int .i64 (0))] h20 fun v32 h33 =>
  cCall call 73 [v23, v32] [(false, [.slc])] h33 (fun v36 h37 =>
  cBuildS 52 1 [(0, 1, v36)] [(.slice none 0 0)] h37 fun v40 h41 =>
  loopS (g103_L1 call lf) lf (updL σ [(22, (Go.Value.int Go.IntKind.i64 0)), (21, (σ 1)), (6, v40), (20, v40), (19, v36), (18, v32), (17, v29), (16, v26), (15, v23), (5, v16), (14, v12), (13, v9), (4, (Go.Value.slice none 0 0)), (2, v3)]) h41 (hBlk 0 (hSeq (fun σ h => g103_C8 call lf σ h k) k))) (fun v34 h35 => k (.panic v34) (updL σ [(18, v32), (17, v29), (16, v26), (15, v23), (5, v16), (14, v12), (13, v9), (4, (Go.Value.slice none 0 0)), (2, v3)]) h35)) (fun v10 h11 => k (.panic v10) (updL σ [(13, v9), (4, (Go.Value.slice none 0 0)), (2, v3)]) h11)
theorem g103_eq (call : Call) (lf : Nat) (args : List Value) (h : AHeap) : evB EK call lf 103 args h = g103 call lf (st0 args) h (finS EK [.tmp 4]) := by kernel_rfl
theorem c103 (call : Call) (args : List Value) (h : AHeap) (K kp : K2) : evCall EK call 103 args h K kp = cCall call 103 args [(false, [.slc])] h K kp := by kernel_rfl
-- "(*kerf/nfa.finder).words"
noncomputable def g104 (call : Call) (lf : Nat) (σ : St) (h : AHeap) (k : KS) : Option Ans :=
  dr (cNilCheck (σ 0) fun v3 =>
  rety v3 h) fun v1 h2 =>
  dr (cFieldAddr 0 v1 fun v6 =>
  rety v6 h2) fun v4 h5 =>
  dr (cLoadA [.slc, .int .i64, .int .i64] v4 h5 fun v9 =>
  rety v9 h5) fun v7 h8 =>
  dr (cNilCheck (σ 0) fun v12 =>
  rety v12 h8) fun v10 h11 =>
  dr (cFieldAddr 0 v10 fun v15 =>
  rety v15 h11) fun v13 h14 =>
  dr (cFieldAddr 1 v13 fun v18 =>
  rety v18 h14) fun v16 h17 =>
  dr (cLoad1 (.int .i64) v16 h17 fun v21 =>
  rety v21 h17) fun v19 h20 =>
  dr (cBuildS 3 1 [(0, 1, v19)] [(.int .i64 (0))] h20 fun v24 h25 =>
  rety v24 h25) fun v22 h23 =>
  hk (ob (fillP [(0, 1, v19)] [(.int .i64 (0))]) fun l26 => some (l26, 3)) v22 h23 (
  rk (rety (σ 1) h23) (σ 1) (
  rk (cLoad1 (.int .i64) v16 h23 fun v27 =>
  rety v27 h23) v19 (
  rk (cFieldAddr 1 v13 fun v28 =>
  rety v28 h23) v16 (
  rk (cFieldAddr 0 v10 fun v29 =>
  rety v29 h23) v13 (
  rk (cNilCheck (σ 0) fun v30 =>
  rety v30 h23) v10 (
  rk (rety (σ 0) h23) (σ 0) (
  rk (cLoadA [.slc, .int .i64, .int .i64] v4 h23 fun v31 =>
  rety v31 h23) v7 (
  rk (cFieldAddr 0 v1 fun v32 =>
  rety v32 h23) v4 (
  rk (cNilCheck (σ 0) fun v33 =>
  rety v33 h23) v1 (
  rk (rety (σ 0) h23) (σ 0) (
  rk (rety (σ 0) h23) (σ 0) (
  dr (cCall call 73 [v7, v22] [(false, [.slc])] h23 (fun v36 h37 =>
  rety v36 h37) nopan) fun v34 h35 =>
  rk (rety (σ 1) h35) (σ 1) (
  rk (rety (σ 0) h35) (σ 0) (
  dr (cCall call 134 [(σ 0), v34, (σ 1)] [] h35 (fun v40 h41 =>
  rety v40 h41) nopan) fun v38 h39 =>
  k .normal (updL σ [(17, v38), (15, v34), (14, v22), (16, (σ 1)), (13, v19), (12, v16), (11, v13), (10, v10), (9, (σ 0)), (8, v7), (7, v4), (6, v1), (5, (σ 0)), (4, (σ 0))]) h39))))))))))))))
theorem g104_eq (call : Call) (lf : Nat) (args : List Value) (h : AHeap) : evB EK call lf 104 args h = g104 call lf (st0 args) h (finS EK []) := by kernel_rfl
theorem c104 (call : Call) (args : List Value) (h : AHeap) (K kp : K2) : evCall EK call 104 args h K kp = cCall call 104 args [] h K kp := by kernel_rfl
-- "slices.ContainsFunc[[]kerf/api.Edge,kerf/api.Edge]"
noncomputable def g105 (call : Call) (lf : Nat) (σ : St) (h : AHeap) (k : KS) : Option Ans :=
  cCall call 135 [(σ 0), (σ 1)] [(false, [.int .i64])] h (fun v9 h10 =>
  cBin EK .geq 3 v9 (Go.Value.int Go.IntKind.i64 0) fun v13 =>
  k .ret (updL σ [(4, v13), (8, v13), (7, v9), (6, (σ 1)), (5, (σ 0)), (4, (Go.Value.bool false))]) h10) (fun v7 h8 => k (.panic v7) (updL σ [(6, (σ 1)), (5, (σ 0)), (4, (Go.Value.bool false))]) h8)
theorem g105_eq (call : Call) (lf : Nat) (args : List Value) (h : AHeap) : evB EK call lf 105 args h = g105 call lf (st0 args) h (finS EK [.tmp 4]) := by kernel_rfl
theorem c105 (call : Call) (args : List Value) (h : AHeap) (K kp : K2) : evCall EK call 105 args h K kp = cCall call 105 args [(false, [.bool])] h K kp := by kernel_rfl
-- "kerf/nfa.Check$1"
noncomputable def g106 (call : Call) (lf : Nat) (σ : St) (h : AHeap) (k : KS) : Option Ans :=
  cNew (σ 0).cells.toList 106 h fun v3 h4 =>
  cLoadA [.slc, .int .i64] v3 h4 fun v9 =>
  cLoad1 (.int .i64) (σ 1) h4 fun v12 =>
  cCall call 107 [v9, v12] [(false, [.bool])] h4 (fun v15 h16 =>
  cUn .not v15 fun v19 =>
  k .ret (updL σ [(3, v19), (7, v19), (6, v15), (5, v12), (4, v9), (3, (Go.Value.bool false)), (2, v3)]) h16) (fun v13 h14 => k (.panic v13) (updL σ [(5, v12), (4, v9), (3, (Go.Value.bool false)), (2, v3)]) h14)
theorem g106_eq (call : Call) (lf : Nat) (args : List Value) (h : AHeap) : evB EK call lf 106 args h = g106 call lf (st0 args) h (finS EK [.tmp 3]) := by kernel_rfl
theorem c106 (call : Call) (args : List Value) (h : AHeap) (K kp : K2) : evCall EK call 106 args h K kp = cCall call 106 args [(false, [.bool])] h K kp := by kernel_rfl
-- "kerf/nfa.edge"
noncomputable def g107_C3 (call : Call) (lf : Nat) (σ : St) (h : AHeap) (k : KS) : Option Ans :=
  cIf (σ 43)
  (k .ret (updL σ [(4, (Go.Value.bool false))]) h)
  (cBin EK .add 3 (σ 19) (Go.Value.int Go.IntKind.i64 1) fun v94 =>
  k .normal (updL σ [(19, v94), (44, v94)]) h)
noncomputable def g107_L2 (call : Call) (lf : Nat) (σ : St) (h : AHeap) (k : KS) : Option Ans :=
  cBin EK .lss 3 (σ 19) (σ 18) fun v37 =>
  cIf v37
  (cIdxS 1 (σ 17) (σ 19) fun v42 =>
  cLoad1 (.int .i64) v42 h fun v45 =>
  cBin EK .lss 3 v45 (Go.Value.int Go.IntKind.i64 0) fun v54 =>
  gd v54
  (cPick (Value.bool true) (Go.Value.bool true) undef fun v60 =>
  gd v60
  (gd undef
  (cFieldAddr 0 (σ 2) fun v69 =>
  cLoad1 (.slc) v69 h fun v72 =>
  cBin EK .sub 3 (σ 19) (Go.Value.int Go.IntKind.i64 1) fun v77 =>
  cIdxS 1 v72 v77 fun v80 =>
  cLoad1 (.int .i64) v80 h fun v83 =>
  cBin EK .leq 3 v45 v83 fun v86 =>
  cPick (Value.bool true) (Go.Value.bool true) undef fun v89 =>
  g107_C3 call lf (updL σ [(43, v89), (42, undef), (30, (Value.bool true)), (41, v86), (33, (Value.bool true)), (40, v83), (33, (Value.bool true)), (39, v80), (33, (Value.bool true)), (38, v77), (33, (Value.bool true)), (37, (σ 19)), (33, (Value.bool true)), (36, v72), (33, (Value.bool true)), (35, v69), (33, (Value.bool true)), (34, v45), (33, (Value.bool true)), (33, undef), (30, (Value.bool true)), (32, undef), (30, (Value.bool true)), (31, undef), (30, (Value.bool true)), (30, v60), (29, v60), (28, undef), (26, (Value.bool true)), (27, undef), (26, (Value.bool true)), (26, v54), (25, v54), (24, v45), (6, v45), (5, (σ 19)), (23, v45), (22, v42), (21, (σ 19)), (20, v37)]) h k)
  (cPick (Value.bool true) (Go.Value.bool true) undef fun v99 =>
  g107_C3 call lf (updL σ [(43, v99), (42, undef), (30, (Value.bool true)), (41, undef), (33, (Value.bool false)), (40, undef), (33, (Value.bool false)), (39, undef), (33, (Value.bool false)), (38, undef), (33, (Value.bool false)), (37, undef), (33, (Value.bool false)), (36, undef), (33, (Value.bool false)), (35, undef), (33, (Value.bool false)), (34, undef), (33, (Value.bool false)), (33, undef), (30, (Value.bool true)), (32, undef), (30, (Value.bool true)), (31, undef), (30, (Value.bool true)), (30, v60), (29, v60), (28, undef), (26, (Value.bool true)), (27, undef), (26, (Value.bool true)), (26, v54), (25, v54), (24, v45), (6, v45), (5, (σ 19)), (23, v45), (22, v42), (21, (σ 19)), (20, v37)]) h k)
  (fun c64 => cPick (Value.bool true) (Go.Value.bool true) undef fun v102 =>
  g107_C3 call lf (updL σ [(43, v102), (42, undef), (30, (Value.bool true)), (41, undef), (33, (Value.tuple c64)), (40, undef), (33, (Value.tuple c64)), (39, undef), (33, (Value.tuple c64)), (38, undef), (33, (Value.tuple c64)), (37, undef), (33, (Value.tuple c64)), (36, undef), (33, (Value.tuple c64)), (35, undef), (33, (Value.tuple c64)), (34, undef), (33, (Value.tuple c64)), (33, undef), (30, (Value.bool true)), (32, undef), (30, (Value.bool true)), (31, undef), (30, (Value.bool true)), (30, v60), (29, v60), (28, undef), (26, (Value.bool true)), (27, undef), (26, (Value.bool true)), (26, v54), (25, v54), (24, v45), (6, v45), (5, (σ 19)), (23, v45), (22, v42), (21, (σ 19)), (20, v37)]) h k))
  (cBin EK .gtr 3 (σ 19) (Go.Value.int Go.IntKind.i64 0) fun v107 =>
  gd v107
  (cFieldAddr 0 (σ 2) fun v115 =>
  cLoad1 (.slc) v115 h fun v118 =>
  cBin EK .sub 3 (σ 19) (Go.Value.int Go.IntKind.i64 1) fun v123 =>
  cIdxS 1 v118 v123 fun v126 =>
  cLoad1 (.int .i64) v126 h fun v129 =>
  cBin EK .leq 3 v45 v129 fun v132 =>
  cPick (Value.bool true) v132 (Go.Value.bool false) fun v135 =>
  cPick (Value.bool false) (Go.Value.bool true) v135 fun v138 =>
  g107_C3 call lf (updL σ [(43, v138), (42, v135), (30, (Value.bool false)), (41, v132), (33, (Value.bool true)), (40, v129), (33, (Value.bool true)), (39, v126), (33, (Value.bool true)), (38, v123), (33, (Value.bool true)), (37, (σ 19)), (33, (Value.bool true)), (36, v118), (33, (Value.bool true)), (35, v115), (33, (Value.bool true)), (34, v45), (33, (Value.bool true)), (33, v107), (30, (Value.bool false)), (32, v107), (30, (Value.bool false)), (31, (σ 19)), (30, (Value.bool false)), (30, v60), (29, v60), (28, undef), (26, (Value.bool true)), (27, undef), (26, (Value.bool true)), (26, v54), (25, v54), (24, v45), (6, v45), (5, (σ 19)), (23, v45), (22, v42), (21, (σ 19)), (20, v37)]) h k)
  (cPick (Value.bool false) undef (Go.Value.bool false) fun v141 =>
  cPick (Value.bool false) (Go.Value.bool true) v141 fun v144 =>
  g107_C3 call lf (updL σ [(43, v144), (42, v141), (30, (Value.bool false)), (41, undef), (33, (Value.bool false)), (40, undef), (33, (Value.bool false)), (39, undef), (33, (Value.bool false)), (38, undef), (33, (Value.bool false)), (37, undef), (33, (Value.bool false)), (36, undef), (33, (Value.bool false)), (35, undef), (33, (Value.bool false)), (34, undef), (33, (Value.bool false)), (33, v107), (30, (Value.bool false)), (32, v107), (30, (Value.bool false)), (31, (σ 19)), (30, (Value.bool false)), (30, v60), (29, v60), (28, undef), (26, (Value.bool true)), (27, undef), (26, (Value.bool true)), (26, v54), (25, v54), (24, v45), (6, v45), (5, (σ 19)), (23, v45), (22, v42), (21, (σ 19)), (20, v37)]) h k)
  (fun c110 => cPick (Value.tuple c110) undef (Go.Value.bool false) fun v147 =>
  cPick (Value.bool false) (Go.Value.bool true) v147 fun v150 =>
  g107_C3 call lf (updL σ [(43, v150), (42, v147), (30, (Value.bool false)), (41, undef), (33, (Value.tuple c110)), (40, undef), (33, (Value.tuple c110)), (39, undef), (33, (Value.tuple c110)), (38, undef), (33, (Value.tuple c110)), (37, undef), (33, (Value.tuple c110)), (36, undef), (33, (Value.tuple c110)), (35, undef), (33, (Value.tuple c110)), (34, undef), (33, (Value.tuple c110)), (33, v107), (30, (Value.bool false)), (32, v107), (30, (Value.bool false)), (31, (σ 19)), (30, (Value.bool false)), (30, v60), (29, v60), (28, undef), (26, (Value.bool true)), (27, undef), (26, (Value.bool true)), (26, v54), (25, v54), (24, v45), (6, v45), (5, (σ 19)), (23, v45), (22, v42), (21, (σ 19)), (20, v37)]) h k))
  (fun c63 => gd undef
  (cFieldAddr 0 (σ 2) fun v156 =>
  cLoad1 (.slc) v156 h fun v159 =>
  cBin EK .sub 3 (σ 19) (Go.Value.int Go.IntKind.i64 1) fun v164 =>
  cIdxS 1 v159 v164 fun v167 =>
  cLoad1 (.int .i64) v167 h fun v170 =>
  cBin EK .leq 3 v45 v170 fun v173 =>
  cPick (Value.tuple c63) (Go.Value.bool true) undef fun v176 =>
  g107_C3 call lf (updL σ [(43, v176), (42, undef), (30, (Value.tuple c63)), (41, v173), (33, (Value.bool true)), (40, v170), (33, (Value.bool true)), (39, v167), (33, (Value.bool true)), (38, v164), (33, (Value.bool true)), (37, (σ 19)), (33, (Value.bool true)), (36, v159), (33, (Value.bool true)), (35, v156), (33, (Value.bool true)), (34, v45), (33, (Value.bool true)), (33, undef), (30, (Value.tuple c63)), (32, undef), (30, (Value.tuple c63)), (31, undef), (30, (Value.tuple c63)), (30, v60), (29, v60), (28, undef), (26, (Value.bool true)), (27, undef), (26, (Value.bool true)), (26, v54), (25, v54), (24, v45), (6, v45), (5, (σ 19)), (23, v45), (22, v42), (21, (σ 19)), (20, v37)]) h k)
  (cPick (Value.tuple c63) (Go.Value.bool true) undef fun v179 =>
  g107_C3 call lf (updL σ [(43, v179), (42, undef), (30, (Value.tuple c63)), (41, undef), (33, (Value.bool false)), (40, undef), (33, (Value.bool false)), (39, undef), (33, (Value.bool false)), (38, undef), (33, (Value.bool false)), (37, undef), (33, (Value.bool false)), (36, undef), (33, (Value.bool false)), (35, undef), (33, (Value.bool false)), (34, undef), (33, (Value.bool false)), (33, undef), (30, (Value.tuple c63)), (32, undef), (30, (Value.tuple c63)), (31, undef), (30, (Value.tuple c63)), (30, v60), (29, v60), (28, undef), (26, (Value.bool true)), (27, undef), (26, (Value.bool true)), (26, v54), (25, v54), (24, v45), (6, v45), (5, (σ 19)), (23, v45), (22, v42), (21, (σ 19)), (20, v37)]) h k)
  (fun c151 => cPick (Value.tuple c63) (Go.Value.bool true) undef fun v182 =>
  g107_C3 call lf (updL σ [(43, v182), (42, undef), (30, (Value.tuple c63)), (41, undef), (33, (Value.tuple c151)), (40, undef), (33, (Value.tuple c151)), (39, undef), (33, (Value.tuple c151)), (38, undef), (33, (Value.tuple c151)), (37, undef), (33, (Value.tuple c151)), (36, undef), (33, (Value.tuple c151)), (35, undef), (33, (Value.tuple c151)), (34, undef), (33, (Value.tuple c151)), (33, undef), (30, (Value.tuple c63)), (32, undef), (30, (Value.tuple c63)), (31, undef), (30, (Value.tuple c63)), (30, v60), (29, v60), (28, undef), (26, (Value.bool true)), (27, undef), (26, (Value.bool true)), (26, v54), (25, v54), (24, v45), (6, v45), (5, (σ 19)), (23, v45), (22, v42), (21, (σ 19)), (20, v37)]) h k)))
  (cBin EK .geq 3 v45 (Go.Value.int Go.IntKind.i64 64) fun v187 =>
  cPick (Value.bool false) (Go.Value.bool true) v187 fun v190 =>
  gd v190
  (gd undef
  (cFieldAddr 0 (σ 2) fun v199 =>
  cLoad1 (.slc) v199 h fun v202 =>
  cBin EK .sub 3 (σ 19) (Go.Value.int Go.IntKind.i64 1) fun v207 =>
  cIdxS 1 v202 v207 fun v210 =>
  cLoad1 (.int .i64) v210 h fun v213 =>
  cBin EK .leq 3 v45 v213 fun v216 =>
  cPick (Value.bool true) (Go.Value.bool true) undef fun v219 =>
  g107_C3 call lf (updL σ [(43, v219), (42, undef), (30, (Value.bool true)), (41, v216), (33, (Value.bool true)), (40, v213), (33, (Value.bool true)), (39, v210), (33, (Value.bool true)), (38, v207), (33, (Value.bool true)), (37, (σ 19)), (33, (Value.bool true)), (36, v202), (33, (Value.bool true)), (35, v199), (33, (Value.bool true)), (34, v45), (33, (Value.bool true)), (33, undef), (30, (Value.bool true)), (32, undef), (30, (Value.bool true)), (31, undef), (30, (Value.bool true)), (30, v190), (29, v190), (28, v187), (26, (Value.bool false)), (27, v45), (26, (Value.bool false)), (26, v54), (25, v54), (24, v45), (6, v45), (5, (σ 19)), (23, v45), (22, v42), (21, (σ 19)), (20, v37)]) h k)
  (cPick (Value.bool true) (Go.Value.bool true) undef fun v222 =>
  g107_C3 call lf (updL σ [(43, v222), (42, undef), (30, (Value.bool true)), (41, undef), (33, (Value.bool false)), (40, undef), (33, (Value.bool false)), (39, undef), (33, (Value.bool false)), (38, undef), (33, (Value.bool false)), (37, undef), (33, (Value.bool false)), (36, undef), (33, (Value.bool false)), (35, undef), (33, (Value.bool false)), (34, undef), (33, (Value.bool false)), (33, undef), (30, (Value.bool true)), (32, undef), (30, (Value.bool true)), (31, undef), (30, (Value.bool true)), (30, v190), (29, v190), (28, v187), (26, (Value.bool false)), (27, v45), (26, (Value.bool false)), (26, v54), (25, v54), (24, v45), (6, v45), (5, (σ 19)), (23, v45), (22, v42), (21, (σ 19)), (20, v37)]) h k)
  (fun c194 => cPick (Value.bool true) (Go.Value.bool true) undef fun v225 =>
  g107_C3 call lf (updL σ [(43, v225), (42, undef), (30, (Value.bool true)), (41, undef), (33, (Value.tuple c194)), (40, undef), (33, (Value.tuple c194)), (39, undef), (33, (Value.tuple c194)), (38, undef), (33, (Value.tuple c194)), (37, undef), (33, (Value.tuple c194)), (36, undef), (33, (Value.tuple c194)), (35, undef), (33, (Value.tuple c194)), (34, undef), (33, (Value.tuple c194)), (33, undef), (30, (Value.bool true)), (32, undef), (30, (Value.bool true)), (31, undef), (30, (Value.bool true)), (30, v190), (29, v190), (28, v187), (26, (Value.bool false)), (27, v45), (26, (Value.bool false)), (26, v54), (25, v54), (24, v45), (6, v45), (5, (σ 19)), (23, v45), (22, v42), (21, (σ 19)), (20, v37)]) h k))
  (cBin EK .gtr 3 (σ 19) (Go.Value.int Go.IntKind.i64 0) fun v230 =>
  gd v230
  (cFieldAddr 0 (σ 2) fun v238 =>
  cLoad1 (.slc) v238 h fun v241 =>
  cBin EK .sub 3 (σ 19) (Go.Value.int Go.IntKind.i64 1) fun v246 =>
  cIdxS 1 v241 v246 fun v249 =>
  cLoad1 (.int .i64) v249 h fun v252 =>
  cBin EK .leq 3 v45 v252 fun v255 =>
  cPick (Value.bool true) v255 (Go.Value.bool false) fun v258 =>
  cPick (Value.bool false) (Go.Value.bool true) v258 fun v261 =>
  g107_C3 call lf (updL σ [(43, v261), (42, v258), (30, (Value.bool false)), (41, v255), (33, (Value.bool true)), (40, v252), (33, (Value.bool true)), (39, v249), (33, (Value.bool true)), (38, v246), (33, (Value.bool true)), (37, (σ 19)), (33, (Value.bool true)), (36, v241), (33, (Value.bool true)), (35, v238), (33, (Value.bool true)), (34, v45), (33, (Value.bool true)), (33, v230), (30, (Value.bool false)), (32, v230), (30, (Value.bool false)), (31, (σ 19)), (30, (Value.bool false)), (30, v190), (29, v190), (28, v187), (26, (Value.bool false)), (27, v45), (26, (Value.bool false)), (26, v54), (25, v54), (24, v45), (6, v45), (5, (σ 19)), (23, v45), (22, v42), (21, (σ 19)), (20, v37)]) h k)
  (cPick (Value.bool false) undef (Go.Value.bool false) fun v264 =>
  cPick (Value.bool false) (Go.Value.bool true) v264 fun v267 =>
  g107_C3 call lf (updL σ [(43, v267), (42, v264), (30, (Value.bool false)), (41, undef), (33, (Value.bool false)), (40, undef), (33, (Value.bool false)), (39, undef), (33, (Value.bool false)), (38, undef), (33, (Value.bool false)), (37, undef), (33, (Value.bool false)), (36, undef), (33, (Value.bool false)), (35, undef), (33, (Value.bool false)), (34, undef), (33, (Value.bool false)), (33, v230), (30, (Value.bool false)), (32, v230), (30, (Value.bool false)), (31, (σ 19)), (30, (Value.bool false)), (30, v190), (29, v190), (28, v187), (26, (Value.bool false)), (27, v45), (26, (Value.bool false)), (26, v54), (25, v54), (24, v45), (6, v45), (5, (σ 19)), (23, v45), (22, v42), (21, (σ 19)), (20, v37)]) h k)
  (fun c233 => cPick (Value.tuple c233) undef (Go.Value.bool false) fun v270 =>
  cPick (Value.bool false) (Go.Value.bool true) v270 fun v273 =>
  g107_C3 call lf (updL σ [(43, v273), (42, v270), (30, (Value.bool false)), (41, undef), (33, (Value.tuple c233)), (40, undef), (33, (Value.tuple c233)), (39, undef), (33, (Value.tuple c233)), (38, undef), (33, (Value.tuple c233)), (37, undef), (33, (Value.tuple c233)), (36, undef), (33, (Value.tuple c233)), (35, undef), (33, (Value.tuple c233)), (34, undef), (33, (Value.tuple c233)), (33, v230), (30, (Value.bool false)), (32, v230), (30, (Value.bool false)), (31, (σ 19)), (30, (Value.bool false)), (30, v190), (29, v190), (28, v187), (26, (Value.bool false)), (27, v45), (26, (Value.bool false)), (26, v54), (25, v54), (24, v45), (6, v45), (5, (σ 19)), (23, v45), (22, v42), (21, (σ 19)), (20, v37)]) h k))
  (fun c193 => gd undef
  (cFieldAddr 0 (σ 2) fun v279 =>
  cLoad1 (.slc) v279 h fun v282 =>
  cBin EK .sub 3 (σ 19) (Go.Value.int Go.IntKind.i64 1) fun v287 =>
  cIdxS 1 v282 v287 fun v290 =>
  cLoad1 (.int .i64) v290 h fun v293 =>
  cBin EK .leq 3 v45 v293 fun v296 =>
  cPick (Value.tuple c193) (Go.Value.bool true) undef fun v299 =>
  g107_C3 call lf (updL σ [(43, v299), (42, undef), (30, (Value.tuple c193)), (41, v296), (33, (Value.bool true)), (40, v293), (33, (Value.bool true)), (39, v290), (33, (Value.bool true)), (38, v287), (33, (Value.bool true)), (37, (σ 19)), (33, (Value.bool true)), (36, v282), (33, (Value.bool true)), (35, v279), (33, (Value.bool true)), (34, v45), (33, (Value.bool true)), (33, undef), (30, (Value.tuple c193)), (32, undef), (30, (Value.tuple c193)), (31, undef), (30, (Value.tuple c193)), (30, v190), (29, v190), (28, v187), (26, (Value.bool false)), (27, v45), (26, (Value.bool false)), (26, v54), (25, v54), (24, v45), (6, v45), (5, (σ 19)), (23, v45), (22, v42), (21, (σ 19)), (20, v37)]) h k)
  (cPick (Value.tuple c193) (Go.Value.bool true) undef fun v302 =>
  g107_C3 call lf (updL σ [(43, v302), (42, undef), (30, (Value.tuple c193)), (41, undef), (33, (Value.bool false)), (40, undef), (33, (Value.bool false)), (39, undef), (33, (Value.bool false)), (38, undef), (33, (Value.bool false)), (37, undef), (33, (Value.bool false)), (36, undef), (33, (Value.bool false)), (35, undef), (33, (Value.bool false)), (34, undef), (33, (Value.bool false)), (33, undef), (30, (Value.tuple c193)), (32, undef), (30, (Value.tuple c193)), (31, undef), (30, (Value.tuple c193)), (30, v190), (29, v190), (28, v187), (26, (Value.bool false)), (27, v45), (26, (Value.bool false)), (26, v54), (25, v54), (24, v45), (6, v45), (5, (σ 19)), (23, v45), (22, v42), (21, (σ 19)), (20, v37)]) h k)
  (fun c274 => cPick (Value.tuple c193) (Go.Value.bool true) undef fun v305 =>
  g107_C3 call lf (updL σ [(43, v305), (42, undef), (30, (Value.tuple c193)), (41, undef), (33, (Value.tuple c274)), (40, undef), (33, (Value.tuple c274)), (39, undef), (33, (Value.tuple c274)), (38, undef), (33, (Value.tuple c274)), (37, undef), (33, (Value.tuple c274)), (36, undef), (33, (Value.tuple c274)), (35, undef), (33, (Value.tuple c274)), (34, undef), (33, (Value.tuple c274)), (33, undef), (30, (Value.tuple c193)), (32, undef), (30, (Value.tuple c193)), (31, undef), (30, (Value.tuple c193)), (30, v190), (29, v190), (28, v187), (26, (Value.bool false)), (27, v45), (26, (Value.bool false)), (26, v54), (25, v54), (24, v45), (6, v45), (5, (σ 19)), (23, v45), (22, v42), (21, (σ 19)), (20, v37)]) h k)))
  (fun c57 => cPick (Value.tuple c57) (Go.Value.bool true) undef fun v308 =>
  gd v308
  (gd undef
  (cFieldAddr 0 (σ 2) fun v317 =>
  cLoad1 (.slc) v317 h fun v320 =>
  cBin EK .sub 3 (σ 19) (Go.Value.int Go.IntKind.i64 1) fun v325 =>
  cIdxS 1 v320 v325 fun v328 =>
  cLoad1 (.int .i64) v328 h fun v331 =>
  cBin EK .leq 3 v45 v331 fun v334 =>
  cPick (Value.bool true) (Go.Value.bool true) undef fun v337 =>
  g107_C3 call lf (updL σ [(43, v337), (42, undef), (30, (Value.bool true)), (41, v334), (33, (Value.bool true)), (40, v331), (33, (Value.bool true)), (39, v328), (33, (Value.bool true)), (38, v325), (33, (Value.bool true)), (37, (σ 19)), (33, (Value.bool true)), (36, v320), (33, (Value.bool true)), (35, v317), (33, (Value.bool true)), (34, v45), (33, (Value.bool true)), (33, undef), (30, (Value.bool true)), (32, undef), (30, (Value.bool true)), (31, undef), (30, (Value.bool true)), (30, v308), (29, v308), (28, undef), (26, (Value.tuple c57)), (27, undef), (26, (Value.tuple c57)), (26, v54), (25, v54), (24, v45), (6, v45), (5, (σ 19)), (23, v45), (22, v42), (21, (σ 19)), (20, v37)]) h k)
  (cPick (Value.bool true) (Go.Value.bool true) undef fun v340 =>
  g107_C3 call lf (updL σ [(43, v340), (42, undef), (30, (Value.bool true)), (41, undef), (33, (Value.bool false)), (40, undef), (33, (Value.bool false)), (39, undef), (33, (Value.bool false)), (38, undef), (33, (Value.bool false)), (37, undef), (33, (Value.bool false)), (36, undef), (33, (Value.bool false)), (35, undef), (33, (Value.bool false)), (34, undef), (33, (Value.bool false)), (33, undef), (30, (Value.bool true)), (32, undef), (30, (Value.bool true)), (31, undef), (30, (Value.bool true)), (30, v308), (29, v308), (28, undef), (26, (Value.tuple c57)), (27, undef), (26, (Value.tuple c57)), (26, v54), (25, v54), (24, v45), (6, v45), (5, (σ 19)), (23, v45), (22, v42), (21, (σ 19)), (20, v37)]) h k)
  (fun c312 => cPick (Value.bool true) (Go.Value.bool true) undef fun v343 =>
  g107_C3 call lf (updL σ [(43, v343), (42, undef), (30, (Value.bool true)), (41, undef), (33, (Value.tuple c312)), (40, undef), (33, (Value.tuple c312)), (39, undef), (33, (Value.tuple c312)), (38, undef), (33, (Value.tuple c312)), (37, undef), (33, (Value.tuple c312)), (36, undef), (33, (Value.tuple c312)), (35, undef), (33, (Value.tuple c312)), (34, undef), (33, (Value.tuple c312)), (33, undef), (30, (Value.bool true)), (32, undef), (30, (Value.bool true)), (31, undef), (30, (Value.bool true)), (30, v308), (29, v308), (28, undef), (26, (Value.tuple c57)), (27, undef), (26, (Value.tuple c57)), (26, v54), (25, v54), (24, v45), (6, v45), (5, (σ 19)), (23, v45), (22, v42), (21, (σ 19)), (20, v37)]) h k))
  (cBin EK .gtr 3 (σ 19) (Go.Value.int Go.IntKind.i64 0) fun v348 =>
  gd v348
  (cFieldAddr 0 (σ 2) fun v356 =>
  cLoad1 (.slc) v356 h fun v359 =>
  cBin EK .sub 3 (σ 19) (Go.Value.int Go.IntKind.i64 1) fun v364 =>
  cIdxS 1 v359 v364 fun v367 =>
  cLoad1 (.int .i64) v367 h fun v370 =>
  cBin EK .leq 3 v45 v370 fun v373 =>
  cPick (Value.bool true) v373 (Go.Value.bool false) fun v376 =>
  cPick (Value.bool false) (Go.Value.bool true) v376 fun v379 =>
  g107_C3 call lf (updL σ [(43, v379), (42, v376), (30, (Value.bool false)), (41, v373), (33, (Value.bool true)), (40, v370), (33, (Value.bool true)), (39, v367), (33, (Value.bool true)), (38, v364), (33, (Value.bool true)), (37, (σ 19)), (33, (Value.bool true)), (36, v359), (33, (Value.bool true)), (35, v356), (33, (Value.bool true)), (34, v45), (33, (Value.bool true)), (33, v348), (30, (Value.bool false)), (32, v348), (30, (Value.bool false)), (31, (σ 19)), (30, (Value.bool false)), (30, v308), (29, v308), (28, undef), (26, (Value.tuple c57)), (27, undef), (26, (Value.tuple c57)), (26, v54), (25, v54), (24, v45), (6, v45), (5, (σ 19)), (23, v45), (22, v42), (21, (σ 19)), (20, v37)]) h k)
  (cPick (Value.bool false) undef (Go.Value.bool false) fun v382 =>
  cPick (Value.bool false) (Go.Value.bool true) v382 fun v385 =>
  g107_C3 call lf (updL σ [(43, v385), (42, v382), (30, (Value.bool false)), (41, undef), (33, (Value.bool false)), (40, undef), (33, (Value.bool false)), (39, undef), (33, (Value.bool false)), (38, undef), (33, (Value.bool false)), (37, undef), (33, (Value.bool false)), (36, undef), (33, (Value.bool false)), (35, undef), (33, (Value.bool false)), (34, undef), (33, (Value.bool false)), (33, v348), (30, (Value.bool false)), (32, v348), (30, (Value.bool false)), (31, (σ 19)), (30, (Value.bool false)), (30, v308), (29, v308), (28, undef), (26, (Value.tuple c57)), (27, undef), (26, (Value.tuple c57)), (26, v54), (25, v54), (24, v45), (6, v45), (5, (σ 19)), (23, v45), (22, v42), (21, (σ 19)), (20, v37)]) h k)
  (fun c351 => cPick (Value.tuple c351) undef (Go.Value.bool false) fun v388 =>
  cPick (Value.bool false) (Go.Value.bool true) v388 fun v391 =>
  g107_C3 call lf (updL σ [(43, v391), (42, v388), (30, (Value.bool false)), (41, undef), (33, (Value.tuple c351)), (40, undef), (33, (Value.tuple c351)), (39, undef), (33, (Value.tuple c351)), (38, undef), (33, (Value.tuple c351)), (37, undef), (33, (Value.tuple c351)), (36, undef), (33, (Value.tuple c351)), (35, undef), (33, (Value.tuple c351)), (34, undef), (33, (Value.tuple c351)), (33, v348), (30, (Value.bool false)), (32, v348), (30, (Value.bool false)), (31, (σ 19)), (30, (Value.bool false)), (30, v308), (29, v308), (28, undef), (26, (Value.tuple c57)), (27, undef), (26, (Value.tuple c57)), (26, v54), (25, v54), (24, v45), (6, v45), (5, (σ 19)), (23, v45), (22, v42), (21, (σ 19)), (20, v37)]) h k))
  (fun c311 => gd undef
  (cFieldAddr 0 (σ 2) fun v397 =>
  cLoad1 (.slc) v397 h fun v400 =>
  cBin EK .sub 3 (σ 19) (Go.Value.int Go.IntKind.i64 1) fun v405 =>
  cIdxS 1 v400 v405 fun v408 =>
  cLoad1 (.int .i64) v408 h fun v411 =>
  cBin EK .leq 3 v45 v411 fun v414 =>
  cPick (Value.tuple c311) (Go.Value.bool true) undef fun v417 =>
  g107_C3 call lf (updL σ [(43, v417), (42, undef), (30, (Value.tuple c311)), (41, v414), (33, (Value.bool true)), (40, v411), (33, (Value.bool true)), (39, v408), (33, (Value.bool true)), (38, v405), (33, (Value.bool true)), (37, (σ 19)), (33, (Value.bool true)), (36, v400), (33, (Value.bool true)), (35, v397), (33, (Value.bool true)), (34, v45), (33, (Value.bool true)), (33, undef), (30, (Value.tuple c311)), (32, undef), (30, (Value.tuple c311)), (31, undef), (30, (Value.tuple c311)), (30, v308), (29, v308), (28, undef), (26, (Value.tuple c57)), (27, undef), (26, (Value.tuple c57)), (26, v54), (25, v54), (24, v45), (6, v45), (5, (σ 19)), (23, v45), (22, v42), (21, (σ 19)), (20, v37)]) h k)
  (cPick (Value.tuple c311) (Go.Value.bool true) undef fun v420 =>
  g107_C3 call lf (updL σ [(43, v420), (42, undef), (30, (Value.tuple c311)), (41, undef), (33, (Value.bool false)), (40, undef), (33, (Value.bool false)), (39, undef), (33, (Value.bool false)), (38, undef), (33, (Value.bool false)), (37, undef), (33, (Value.bool false)), (36, undef), (33, (Value.bool false)), (35, undef), (33, (Value.bool false)), (34, undef), (33, (Value.bool false)), (33, undef), (30, (Value.tuple c311)), (32, undef), (30, (Value.tuple c311)), (31, undef), (30, (Value.tuple c311)), (30, v308), (29, v308), (28, undef), (26, (Value.tuple c57)), (27, undef), (26, (Value.tuple c57)), (26, v54), (25, v54), (24, v45), (6, v45), (5, (σ 19)), (23, v45), (22, v42), (21, (σ 19)), (20, v37)]) h k)
  (fun c392 => cPick (Value.tuple c311) (Go.Value.bool true) undef fun v423 =>
  g107_C3 call lf (updL σ [(43, v423), (42, undef), (30, (Value.tuple c311)), (41, undef), (33, (Value.tuple c392)), (40, undef), (33, (Value.tuple c392)), (39, undef), (33, (Value.tuple c392)), (38, undef), (33, (Value.tuple c392)), (37, undef), (33, (Value.tuple c392)), (36, undef), (33, (Value.tuple c392)), (35, undef), (33, (Value.tuple c392)), (34, undef), (33, (Value.tuple c392)), (33, undef), (30, (Value.tuple c311)), (32, undef), (30, (Value.tuple c311)), (31, undef), (30, (Value.tuple c311)), (30, v308), (29, v308), (28, undef), (26, (Value.tuple c57)), (27, undef), (26, (Value.tuple c57)), (26, v54), (25, v54), (24, v45), (6, v45), (5, (σ 19)), (23, v45), (22, v42), (21, (σ 19)), (20, v37)]) h k))))
  (k (.exit 0) (updL σ [(20, v37)]) h)
noncomputable def g107_C4 (call : Call) (lf : Nat) (σ : St) (h : AHeap) (k : KS) : Option Ans :=
  k .ret (updL σ [(4, (Go.Value.bool true))]) h
noncomputable def g107_C1 (call : Call) (lf : Nat) (σ : St) (h : AHeap) (k : KS) : Option Ans :=
  cIf (σ 15)
  (k .ret (updL σ [(4, (Go.Value.bool false))]) h)
  (cFieldAddr 0 (σ 2) fun v26 =>
  cLoad1 (.slc) v26 h fun v29 =>
  cLenS v29 fun v32 =>
  loopS (g107_L2 call lf) lf (updL σ [(19, (Go.Value.int Go.IntKind.i64 0)), (18, v32), (17, v29), (16, v26)]) h (hBlk 0 (hSeq (fun σ h => g107_C4 call lf σ h k) k)))
noncomputable def g107 (call : Call) (lf : Nat) (σ : St) (h : AHeap) (k : KS) : Option Ans :=
  cNew (σ 0).cells.toList 106 h fun v3 h4 =>
  cFieldAddr 1 v3 fun v9 =>
  cLoad1 (.int .i64) v9 h4 fun v12 =>
  cBin EK .lss 3 v12 (Go.Value.int Go.IntKind.i64 0) fun v15 =>
  gd v15
  (cPick (Value.bool true) (Go.Value.bool true) undef fun v21 =>
  g107_C1 call lf (updL σ [(15, v21), (14, undef), (10, (Value.bool true)), (13, undef), (10, (Value.bool true)), (12, undef), (10, (Value.bool true)), (11, undef), (10, (Value.bool true)), (10, v15), (9, v15), (8, v12), (7, v9), (4, (Go.Value.bool false)), (2, v3)]) h4 k)
  (cFieldAddr 1 v3 fun v428 =>
  cLoad1 (.int .i64) v428 h4 fun v431 =>
  cBin EK .geq 3 v431 (σ 1) fun v436 =>
  cPick (Value.bool false) (Go.Value.bool true) v436 fun v439 =>
  g107_C1 call lf (updL σ [(15, v439), (14, v436), (10, (Value.bool false)), (13, (σ 1)), (10, (Value.bool false)), (12, v431), (10, (Value.bool false)), (11, v428), (10, (Value.bool false)), (10, v15), (9, v15), (8, v12), (7, v9), (4, (Go.Value.bool false)), (2, v3)]) h4 k)
  (fun c18 => cPick (Value.tuple c18) (Go.Value.bool true) undef fun v442 =>
  g107_C1 call lf (updL σ [(15, v442), (14, undef), (10, (Value.tuple c18)), (13, undef), (10, (Value.tuple c18)), (12, undef), (10, (Value.tuple c18)), (11, undef), (10, (Value.tuple c18)), (10, v15), (9, v15), (8, v12), (7, v9), (4, (Go.Value.bool false)), (2, v3)]) h4 k)
theorem g107_eq (call : Call) (lf : Nat) (args : List Value) (h : AHeap) : evB EK call lf 107 args h = g107 call lf (st0 args) h (finS EK [.tmp 4]) := by kernel_rfl
theorem c107 (call : Call) (args : List Value) (h : AHeap) (K kp : K2) : evCall EK call 107 args h K kp = cCall call 107 args [(false, [.bool])] h K kp := by kernel_rfl
-- "slices.ContainsFunc[[]int,int]"
noncomputable def g108 (call : Call) (lf : Nat) (σ : St) (h : AHeap) (k : KS) : Option Ans :=
  cCall call 136 [(σ 0), (σ 1)] [(false, [.int .i64])] h (fun v9 h10 =>
  cBin EK .geq 3 v9 (Go.Value.int Go.IntKind.i64 0) fun v13 =>
  k .ret (updL σ [(4, v13), (8, v13), (7, v9), (6, (σ 1)), (5, (σ 0)), (4, (Go.Value.bool false))]) h10) (fun v7 h8 => k (.panic v7) (updL σ [(6, (σ 1)), (5, (σ 0)), (4, (Go.Value.bool false))]) h8)
theorem g108_eq (call : Call) (lf : Nat) (args : List Value) (h : AHeap) : evB EK call lf 108 args h = g108 call lf (st0 args) h (finS EK [.tmp 4]) := by kernel_rfl
theorem c108 (call : Call) (args : List Value) (h : AHeap) (K kp : K2) : evCall EK call 108 args h K kp = cCall call 108 args [(false, [.bool])] h K kp := by kernel_rfl
-- "kerf/nfa.Check$2"
noncomputable def g109_C1 (call : Call) (lf : Nat) (σ : St) (h : AHeap) (k : KS) : Option Ans :=
  k .ret σ h
noncomputable def g109 (call : Call) (lf : Nat) (σ : St) (h : AHeap) (k : KS) : Option Ans :=
  cBin EK .lss 3 (σ 0) (Go.Value.int Go.IntKind.i64 0) fun v7 =>
  gd v7
  (cPick (Value.bool true) (Go.Value.bool true) undef fun v13 =>
  g109_C1 call lf (updL σ [(3, v13), (10, v13), (9, undef), (6, (Value.bool true)), (8, undef), (6, (Value.bool true)), (7, undef), (6, (Value.bool true)), (6, v7), (5, v7), (4, (σ 0)), (3, (Go.Value.bool false))]) h k)
  (cLoad1 (.int .i64) (σ 1) h fun v20 =>
  cBin EK .geq 3 (σ 0) v20 fun v23 =>
  cPick (Value.bool false) (Go.Value.bool true) v23 fun v26 =>
  g109_C1 call lf (updL σ [(3, v26), (10, v26), (9, v23), (6, (Value.bool false)), (8, v20), (6, (Value.bool false)), (7, (σ 0)), (6, (Value.bool false)), (6, v7), (5, v7), (4, (σ 0)), (3, (Go.Value.bool false))]) h k)
  (fun c10 => cPick (Value.tuple c10) (Go.Value.bool true) undef fun v31 =>
  g109_C1 call lf (updL σ [(3, v31), (10, v31), (9, undef), (6, (Value.tuple c10)), (8, undef), (6, (Value.tuple c10)), (7, undef), (6, (Value.tuple c10)), (6, v7), (5, v7), (4, (σ 0)), (3, (Go.Value.bool false))]) h k)
theorem g109_eq (call : Call) (lf : Nat) (args : List Value) (h : AHeap) : evB EK call lf 109 args h = g109 call lf (st0 args) h (finS EK [.tmp 3]) := by kernel_rfl
theorem c109 (call : Call) (args : List Value) (h : AHeap) (K kp : K2) : evCall EK call 109 args h K kp = cCall call 109 args [(false, [.bool])] h K kp := by kernel_rfl
-- "slices.Index[[]int,int]"
noncomputable def g110_L1 (call : Call) (lf : Nat) (σ : St) (h : AHeap) (k : KS) : Option Ans :=
  cBin EK .lss 3 (σ 8) (σ 7) fun v12 =>
  cIf v12
  (cIdxS 1 (σ 0) (σ 8) fun v25 =>
  cLoad1 (.int .i64) v25 h fun v28 =>
  cBin EK .eql 3 (σ 1) v28 fun v31 =>
  cIf v31
  (k .ret (updL σ [(4, (σ 8)), (17, (σ 8)), (16, v31), (15, v28), (14, v25), (13, (σ 8)), (12, (σ 0)), (11, (σ 1)), (5, (σ 8)), (10, (σ 8)), (9, v12)]) h)
  (cBin EK .add 3 (σ 8) (Go.Value.int Go.IntKind.i64 1) fun v38 =>
  k .normal (updL σ [(8, v38), (18, v38), (16, v31), (15, v28), (14, v25), (13, (σ 8)), (12, (σ 0)), (11, (σ 1)), (5, (σ 8)), (10, (σ 8)), (9, v12)]) h))
  (k (.exit 0) (updL σ [(9, v12)]) h)
noncomputable def g110_C2 (call : Call) (lf : Nat) (σ : St) (h : AHeap) (k : KS) : Option Ans :=
  k .ret (updL σ [(4, (Go.Value.int Go.IntKind.i64 (-1)))]) h
noncomputable def g110 (call : Call) (lf : Nat) (σ : St) (h : AHeap) (k : KS) : Option Ans :=
  cLenS (σ 0) fun v7 =>
  loopS (g110_L1 call lf) lf (updL σ [(8, (Go.Value.int Go.IntKind.i64 0)), (7, v7), (6, (σ 0)), (4, (Go.Value.int Go.IntKind.i64 0))]) h (hBlk 0 (hSeq (fun σ h => g110_C2 call lf σ h k) k))
theorem g110_eq (call : Call) (lf : Nat) (args : List Value) (h : AHeap) : evB EK call lf 110 args h = g110 call lf (st0 args) h (finS EK [.tmp 4]) := by kernel_rfl
theorem c110 (call : Call) (args : List Value) (h : AHeap) (K kp : K2) : evCall EK call 110 args h K kp = cCall call 110 args [(false, [.int .i64])] h K kp := by kernel_rfl
-- "kerf/nfa.closed$1"
noncomputable def g111_C1 (call : Call) (lf : Nat) (σ : St) (h : AHeap) (k : KS) : Option Ans :=
  cIf (σ 18)
  (cLoad1 (.slc) (σ 1) h fun v45 =>
  cIdxS 1 v45 (σ 0) fun v50 =>
  cStore 1 v50 (Go.Value.bool true) h fun h53 =>
  cLoad1 (.slc) (σ 2) h53 fun v56 =>
  cBuildS 3 1 [(0, 1, (σ 0))] [(.int .i64 (0))] h53 fun v61 h62 =>
  cAppend 3 1 8 v56 v61 h62 fun v65 h66 =>
  cStore 1 (σ 2) v65 h66 fun h69 =>
  k .normal (updL σ [(25, v65), (24, v61), (23, (σ 0)), (22, v56), (21, v50), (20, (σ 0)), (19, v45)]) h69)
  (k .normal σ h)
noncomputable def g111 (call : Call) (lf : Nat) (σ : St) (h : AHeap) (k : KS) : Option Ans :=
  cBin EK .geq 3 (σ 0) (Go.Value.int Go.IntKind.i64 0) fun v5 =>
  gd v5
  (cLoad1 (.slc) (σ 1) h fun v13 =>
  cLenS v13 fun v16 =>
  cBin EK .lss 3 (σ 0) v16 fun v19 =>
  cPick (Value.bool true) v19 (Go.Value.bool false) fun v22 =>
  gd v22
  (cLoad1 (.slc) (σ 1) h fun v28 =>
  cIdxS 1 v28 (σ 0) fun v33 =>
  cLoad1 (.bool) v33 h fun v36 =>
  cUn .not v36 fun v39 =>
  cPick (Value.bool true) v39 (Go.Value.bool false) fun v42 =>
  g111_C1 call lf (updL σ [(18, v42), (17, v39), (12, (Value.bool true)), (16, v36), (12, (Value.bool true)), (15, v33), (12, (Value.bool true)), (14, (σ 0)), (12, (Value.bool true)), (13, v28), (12, (Value.bool true)), (12, v22), (11, v22), (10, v19), (6, (Value.bool true)), (9, v16), (6, (Value.bool true)), (8, v13), (6, (Value.bool true)), (7, (σ 0)), (6, (Value.bool true)), (6, v5), (5, v5), (4, (σ 0))]) h k)
  (cPick (Value.bool false) undef (Go.Value.bool false) fun v72 =>
  g111_C1 call lf (updL σ [(18, v72), (17, undef), (12, (Value.bool false)), (16, undef), (12, (Value.bool false)), (15, undef), (12, (Value.bool false)), (14, undef), (12, (Value.bool false)), (13, undef), (12, (Value.bool false)), (12, v22), (11, v22), (10, v19), (6, (Value.bool true)), (9, v16), (6, (Value.bool true)), (8, v13), (6, (Value.bool true)), (7, (σ 0)), (6, (Value.bool true)), (6, v5), (5, v5), (4, (σ 0))]) h k)
  (fun c25 => cPick (Value.tuple c25) undef (Go.Value.bool false) fun v75 =>
  g111_C1 call lf (updL σ [(18, v75), (17, undef), (12, (Value.tuple c25)), (16, undef), (12, (Value.tuple c25)), (15, undef), (12, (Value.tuple c25)), (14, undef), (12, (Value.tuple c25)), (13, undef), (12, (Value.tuple c25)), (12, v22), (11, v22), (10, v19), (6, (Value.bool true)), (9, v16), (6, (Value.bool true)), (8, v13), (6, (Value.bool true)), (7, (σ 0)), (6, (Value.bool true)), (6, v5), (5, v5), (4, (σ 0))]) h k))
  (cPick (Value.bool false) undef (Go.Value.bool false) fun v78 =>
  gd v78
  (cLoad1 (.slc) (σ 1) h fun v84 =>
  cIdxS 1 v84 (σ 0) fun v89 =>
  cLoad1 (.bool) v89 h fun v92 =>
  cUn .not v92 fun v95 =>
  cPick (Value.bool true) v95 (Go.Value.bool false) fun v98 =>
  g111_C1 call lf (updL σ [(18, v98), (17, v95), (12, (Value.bool true)), (16, v92), (12, (Value.bool true)), (15, v89), (12, (Value.bool true)), (14, (σ 0)), (12, (Value.bool true)), (13, v84), (12, (Value.bool true)), (12, v78), (11, v78), (10, undef), (6, (Value.bool false)), (9, undef), (6, (Value.bool false)), (8, undef), (6, (Value.bool false)), (7, undef), (6, (Value.bool false)), (6, v5), (5, v5), (4, (σ 0))]) h k)
  (cPick (Value.bool false) undef (Go.Value.bool false) fun v101 =>
  g111_C1 call lf (updL σ [(18, v101), (17, undef), (12, (Value.bool false)), (16, undef), (12, (Value.bool false)), (15, undef), (12, (Value.bool false)), (14, undef), (12, (Value.bool false)), (13, undef), (12, (Value.bool false)), (12, v78), (11, v78), (10, undef), (6, (Value.bool false)), (9, undef), (6, (Value.bool false)), (8, undef), (6, (Value.bool false)), (7, undef), (6, (Value.bool false)), (6, v5), (5, v5), (4, (σ 0))]) h k)
  (fun c81 => cPick (Value.tuple c81) undef (Go.Value.bool false) fun v104 =>
  g111_C1 call lf (updL σ [(18, v104), (17, undef), (12, (Value.tuple c81)), (16, undef), (12, (Value.tuple c81)), (15, undef), (12, (Value.tuple c81)), (14, undef), (12, (Value.tuple c81)), (13, undef), (12, (Value.tuple c81)), (12, v78), (11, v78), (10, undef), (6, (Value.bool false)), (9, undef), (6, (Value.bool false)), (8, undef), (6, (Value.bool false)), (7, undef), (6, (Value.bool false)), (6, v5), (5, v5), (4, (σ 0))]) h k))
  (fun c8 => cPick (Value.tuple c8) undef (Go.Value.bool false) fun v107 =>
  gd v107
  (cLoad1 (.slc) (σ 1) h fun v113 =>
  cIdxS 1 v113 (σ 0) fun v118 =>
  cLoad1 (.bool) v118 h fun v121 =>
  cUn .not v121 fun v124 =>
  cPick (Value.bool true) v124 (Go.Value.bool false) fun v127 =>
  g111_C1 call lf (updL σ [(18, v127), (17, v124), (12, (Value.bool true)), (16, v121), (12, (Value.bool true)), (15, v118), (12, (Value.bool true)), (14, (σ 0)), (12, (Value.bool true)), (13, v113), (12, (Value.bool true)), (12, v107), (11, v107), (10, undef), (6, (Value.tuple c8)), (9, undef), (6, (Value.tuple c8)), (8, undef), (6, (Value.tuple c8)), (7, undef), (6, (Value.tuple c8)), (6, v5), (5, v5), (4, (σ 0))]) h k)
  (cPick (Value.bool false) undef (Go.Value.bool false) fun v130 =>
  g111_C1 call lf (updL σ [(18, v130), (17, undef), (12, (Value.bool false)), (16, undef), (12, (Value.bool false)), (15, undef), (12, (Value.bool false)), (14, undef), (12, (Value.bool false)), (13, undef), (12, (Value.bool false)), (12, v107), (11, v107), (10, undef), (6, (Value.tuple c8)), (9, undef), (6, (Value.tuple c8)), (8, undef), (6, (Value.tuple c8)), (7, undef), (6, (Value.tuple c8)), (6, v5), (5, v5), (4, (σ 0))]) h k)
  (fun c110 => cPick (Value.tuple c110) undef (Go.Value.bool false) fun v133 =>
  g111_C1 call lf (updL σ [(18, v133), (17, undef), (12, (Value.tuple c110)), (16, undef), (12, (Value.tuple c110)), (15, undef), (12, (Value.tuple c110)), (14, undef), (12, (Value.tuple c110)), (13, undef), (12, (Value.tuple c110)), (12, v107), (11, v107), (10, undef), (6, (Value.tuple c8)), (9, undef), (6, (Value.tuple c8)), (8, undef), (6, (Value.tuple c8)), (7, undef), (6, (Value.tuple c8)), (6, v5), (5, v5), (4, (σ 0))]) h k))
theorem g111_eq (call : Call) (lf : Nat) (args : List Value) (h : AHeap) : evB EK call lf 111 args h = g111 call lf (st0 args) h (finS EK []) := by kernel_rfl
theorem c111 (call : Call) (args : List Value) (h : AHeap) (K kp : K2) : evCall EK call 111 args h K kp = cCall call 111 args [] h K kp := by kernel_rfl
-- "kerf/nfa.members"
noncomputable def g112_C2 (call : Call) (lf : Nat) (σ : St) (h : AHeap) (k : KS) : Option Ans :=
  cBin EK .add 3 (σ 8) (Go.Value.int Go.IntKind.i64 1) fun v45 =>
  k .normal (updL σ [(8, v45), (18, v45)]) h
noncomputable def g112_L1 (call : Call) (lf : Nat) (σ : St) (h : AHeap) (k : KS) : Option Ans :=
  cBin EK .lss 3 (σ 8) (σ 7) fun v14 =>
  cIf v14
  (cIdxS 1 (σ 6) (σ 8) fun v19 =>
  cLoad1 (.bool) v19 h fun v22 =>
  cIf v22
  (cBuildS 3 1 [(0, 1, (σ 8))] [(.int .i64 (0))] h fun v35 h36 =>
  cAppend 3 1 8 (σ 3) v35 h36 fun v39 h40 =>
  g112_C2 call lf (updL σ [(3, v39), (17, v39), (16, v35), (15, (σ 8)), (14, (σ 3)), (13, v22), (5, v22), (4, (σ 8)), (12, v22), (11, v19), (10, (σ 8)), (9, v14)]) h40 k)
  (g112_C2 call lf (updL σ [(13, v22), (5, v22), (4, (σ 8)), (12, v22), (11, v19), (10, (σ 8)), (9, v14)]) h k))
  (k (.exit 0) (updL σ [(9, v14)]) h)
noncomputable def g112_C3 (call : Call) (lf : Nat) (σ : St) (h : AHeap) (k : KS) : Option Ans :=
  k .ret (updL σ [(2, (σ 3)), (19, (σ 3))]) h
noncomputable def g112 (call : Call) (lf : Nat) (σ : St) (h : AHeap) (k : KS) : Option Ans :=
  cLenS (σ 0) fun v9 =>
  loopS (g112_L1 call lf) lf (updL σ [(8, (Go.Value.int Go.IntKind.i64 0)), (7, v9), (6, (σ 0)), (3, (Go.Value.slice none 0 0)), (2, (Go.Value.slice none 0 0))]) h (hBlk 0 (hSeq (fun σ h => g112_C3 call lf σ h k) k))
theorem g112_eq (call : Call) (lf : Nat) (args : List Value) (h : AHeap) : evB EK call lf 112 args h = g112 call lf (st0 args) h (finS EK [.tmp 2]) := by kernel_rfl
theorem c112 (call : Call) (args : List Value) (h : AHeap) (K kp : K2) : evCall EK call 112 args h K kp = cCall call 112 args [(false, [.slc])] h K kp := by kernel_rfl
-- "slices.BinarySearch[[]int,int]"
noncomputable def g113_L1 (call : Call) (lf : Nat) (σ : St) (h : AHeap) (k : KS) : Option Ans :=
  cBin EK .lss 3 (σ 7) (σ 8) fun v24 =>
  cIf v24
  (cBin EK .add 3 (σ 7) (σ 8) fun v31 =>
  opConvertR EK idR h (fun v34 h35 =>
  cBin EK .shr 168 v34 (Go.Value.int Go.IntKind.u64 1) fun v38 =>
  opConvertR EK idR h35 (fun v41 h42 =>
  cIdxS 1 (σ 0) v41 fun v51 =>
  cLoad1 (.int .i64) v51 h42 fun v54 =>
  cCall call 137 [v54, (σ 1)] [(false, [.bool])] h42 (fun v59 h60 =>
  cIf v59
  (cBin EK .add 3 v41 (Go.Value.int Go.IntKind.i64 1) fun v65 =>
  k .normal (updL σ [(7, v65), (29, v65), (28, v41), (27, v59), (26, (σ 1)), (25, v54), (24, v51), (23, v41), (22, (σ 0)), (9, v41), (21, v41), (20, v38), (19, v34), (18, v31), (17, (σ 8)), (16, (σ 7)), (15, v24), (14, (σ 8)), (13, (σ 7))]) h60)
  (k .normal (updL σ [(8, v41), (30, v41), (27, v59), (26, (σ 1)), (25, v54), (24, v51), (23, v41), (22, (σ 0)), (9, v41), (21, v41), (20, v38), (19, v34), (18, v31), (17, (σ 8)), (16, (σ 7)), (15, v24), (14, (σ 8)), (13, (σ 7))]) h60)) (fun v57 h58 => k (.panic v57) (updL σ [(26, (σ 1)), (25, v54), (24, v51), (23, v41), (22, (σ 0)), (9, v41), (21, v41), (20, v38), (19, v34), (18, v31), (17, (σ 8)), (16, (σ 7)), (15, v24), (14, (σ 8)), (13, (σ 7))]) h58)) 168 3 (.const v38)) 3 168 (.const v31))
  (k (.exit 0) (updL σ [(15, v24), (14, (σ 8)), (13, (σ 7))]) h)
noncomputable def g113_C3 (call : Call) (lf : Nat) (σ : St) (h : AHeap) (k : KS) : Option Ans :=
  k .ret σ h
noncomputable def g113_C2 (call : Call) (lf : Nat) (σ : St) (h : AHeap) (k : KS) : Option Ans :=
  cBin EK .lss 3 (σ 7) (σ 6) fun v80 =>
  gd v80
  (cIdxS 1 (σ 0) (σ 7) fun v90 =>
  cLoad1 (.int .i64) v90 h fun v93 =>
  cBin EK .eql 3 v93 (σ 1) fun v98 =>
  gd v98
  (gd undef
  (cCall call 138 [(σ 1)] [(false, [.bool])] h (fun v107 h108 =>
  cPick (Value.bool true) (Go.Value.bool true) undef fun v111 =>
  cPick (Value.bool true) v111 (Go.Value.bool false) fun v114 =>
  g113_C3 call lf (updL σ [(5, v114), (4, (σ 7)), (53, v114), (52, v111), (35, (Value.bool true)), (51, undef), (42, (Value.bool true)), (50, v107), (48, (Value.bool true)), (49, (σ 1)), (48, (Value.bool true)), (48, undef), (42, (Value.bool true)), (47, undef), (42, (Value.bool true)), (46, undef), (42, (Value.bool true)), (45, undef), (42, (Value.bool true)), (44, undef), (42, (Value.bool true)), (43, undef), (42, (Value.bool true)), (42, v98), (35, (Value.bool true)), (41, v98), (35, (Value.bool true)), (40, (σ 1)), (35, (Value.bool true)), (39, v93), (35, (Value.bool true)), (38, v90), (35, (Value.bool true)), (37, (σ 7)), (35, (Value.bool true)), (36, (σ 0)), (35, (Value.bool true)), (35, v80), (34, v80), (33, (σ 6)), (32, (σ 7)), (31, (σ 7))]) h108 k) (fun v105 h106 => k (.panic v105) (updL σ [(48, (Value.bool true)), (49, (σ 1)), (48, (Value.bool true)), (48, undef), (42, (Value.bool true)), (47, undef), (42, (Value.bool true)), (46, undef), (42, (Value.bool true)), (45, undef), (42, (Value.bool true)), (44, undef), (42, (Value.bool true)), (43, undef), (42, (Value.bool true)), (42, v98), (35, (Value.bool true)), (41, v98), (35, (Value.bool true)), (40, (σ 1)), (35, (Value.bool true)), (39, v93), (35, (Value.bool true)), (38, v90), (35, (Value.bool true)), (37, (σ 7)), (35, (Value.bool true)), (36, (σ 0)), (35, (Value.bool true)), (35, v80), (34, v80), (33, (σ 6)), (32, (σ 7)), (31, (σ 7))]) h106))
  (cPick (Value.bool true) (Go.Value.bool true) undef fun v121 =>
  cPick (Value.bool true) v121 (Go.Value.bool false) fun v124 =>
  g113_C3 call lf (updL σ [(5, v124), (4, (σ 7)), (53, v124), (52, v121), (35, (Value.bool true)), (51, undef), (42, (Value.bool true)), (50, undef), (48, (Value.bool false)), (49, undef), (48, (Value.bool false)), (48, undef), (42, (Value.bool true)), (47, undef), (42, (Value.bool true)), (46, undef), (42, (Value.bool true)), (45, undef), (42, (Value.bool true)), (44, undef), (42, (Value.bool true)), (43, undef), (42, (Value.bool true)), (42, v98), (35, (Value.bool true)), (41, v98), (35, (Value.bool true)), (40, (σ 1)), (35, (Value.bool true)), (39, v93), (35, (Value.bool true)), (38, v90), (35, (Value.bool true)), (37, (σ 7)), (35, (Value.bool true)), (36, (σ 0)), (35, (Value.bool true)), (35, v80), (34, v80), (33, (σ 6)), (32, (σ 7)), (31, (σ 7))]) h k)
  (fun c102 => cPick (Value.bool true) (Go.Value.bool true) undef fun v131 =>
  cPick (Value.bool true) v131 (Go.Value.bool false) fun v134 =>
  g113_C3 call lf (updL σ [(5, v134), (4, (σ 7)), (53, v134), (52, v131), (35, (Value.bool true)), (51, undef), (42, (Value.bool true)), (50, undef), (48, (Value.tuple c102)), (49, undef), (48, (Value.tuple c102)), (48, undef), (42, (Value.bool true)), (47, undef), (42, (Value.bool true)), (46, undef), (42, (Value.bool true)), (45, undef), (42, (Value.bool true)), (44, undef), (42, (Value.bool true)), (43, undef), (42, (Value.bool true)), (42, v98), (35, (Value.bool true)), (41, v98), (35, (Value.bool true)), (40, (σ 1)), (35, (Value.bool true)), (39, v93), (35, (Value.bool true)), (38, v90), (35, (Value.bool true)), (37, (σ 7)), (35, (Value.bool true)), (36, (σ 0)), (35, (Value.bool true)), (35, v80), (34, v80), (33, (σ 6)), (32, (σ 7)), (31, (σ 7))]) h k))
  (cIdxS 1 (σ 0) (σ 7) fun v145 =>
  cLoad1 (.int .i64) v145 h fun v148 =>
  cCall call 138 [v148] [(false, [.bool])] h (fun v151 h152 =>
  gd v151
  (cCall call 138 [(σ 1)] [(false, [.bool])] h152 (fun v160 h161 =>
  cPick (Value.bool true) v160 (Go.Value.bool false) fun v164 =>
  cPick (Value.bool false) (Go.Value.bool true) v164 fun v167 =>
  cPick (Value.bool true) v167 (Go.Value.bool false) fun v170 =>
  g113_C3 call lf (updL σ [(5, v170), (4, (σ 7)), (53, v170), (52, v167), (35, (Value.bool true)), (51, v164), (42, (Value.bool false)), (50, v160), (48, (Value.bool true)), (49, (σ 1)), (48, (Value.bool true)), (48, v151), (42, (Value.bool false)), (47, v151), (42, (Value.bool false)), (46, v148), (42, (Value.bool false)), (45, v145), (42, (Value.bool false)), (44, (σ 7)), (42, (Value.bool false)), (43, (σ 0)), (42, (Value.bool false)), (42, v98), (35, (Value.bool true)), (41, v98), (35, (Value.bool true)), (40, (σ 1)), (35, (Value.bool true)), (39, v93), (35, (Value.bool true)), (38, v90), (35, (Value.bool true)), (37, (σ 7)), (35, (Value.bool true)), (36, (σ 0)), (35, (Value.bool true)), (35, v80), (34, v80), (33, (σ 6)), (32, (σ 7)), (31, (σ 7))]) h161 k) (fun v158 h159 => k (.panic v158) (updL σ [(48, (Value.bool true)), (49, (σ 1)), (48, (Value.bool true)), (48, v151), (42, (Value.bool false)), (47, v151), (42, (Value.bool false)), (46, v148), (42, (Value.bool false)), (45, v145), (42, (Value.bool false)), (44, (σ 7)), (42, (Value.bool false)), (43, (σ 0)), (42, (Value.bool false)), (42, v98), (35, (Value.bool true)), (41, v98), (35, (Value.bool true)), (40, (σ 1)), (35, (Value.bool true)), (39, v93), (35, (Value.bool true)), (38, v90), (35, (Value.bool true)), (37, (σ 7)), (35, (Value.bool true)), (36, (σ 0)), (35, (Value.bool true)), (35, v80), (34, v80), (33, (σ 6)), (32, (σ 7)), (31, (σ 7))]) h159))
  (cPick (Value.bool false) undef (Go.Value.bool false) fun v177 =>
  cPick (Value.bool false) (Go.Value.bool true) v177 fun v180 =>
  cPick (Value.bool true) v180 (Go.Value.bool false) fun v183 =>
  g113_C3 call lf (updL σ [(5, v183), (4, (σ 7)), (53, v183), (52, v180), (35, (Value.bool true)), (51, v177), (42, (Value.bool false)), (50, undef), (48, (Value.bool false)), (49, undef), (48, (Value.bool false)), (48, v151), (42, (Value.bool false)), (47, v151), (42, (Value.bool false)), (46, v148), (42, (Value.bool false)), (45, v145), (42, (Value.bool false)), (44, (σ 7)), (42, (Value.bool false)), (43, (σ 0)), (42, (Value.bool false)), (42, v98), (35, (Value.bool true)), (41, v98), (35, (Value.bool true)), (40, (σ 1)), (35, (Value.bool true)), (39, v93), (35, (Value.bool true)), (38, v90), (35, (Value.bool true)), (37, (σ 7)), (35, (Value.bool true)), (36, (σ 0)), (35, (Value.bool true)), (35, v80), (34, v80), (33, (σ 6)), (32, (σ 7)), (31, (σ 7))]) h152 k)
  (fun c155 => cPick (Value.tuple c155) undef (Go.Value.bool false) fun v190 =>
  cPick (Value.bool false) (Go.Value.bool true) v190 fun v193 =>
  cPick (Value.bool true) v193 (Go.Value.bool false) fun v196 =>
  g113_C3 call lf (updL σ [(5, v196), (4, (σ 7)), (53, v196), (52, v193), (35, (Value.bool true)), (51, v190), (42, (Value.bool false)), (50, undef), (48, (Value.tuple c155)), (49, undef), (48, (Value.tuple c155)), (48, v151), (42, (Value.bool false)), (47, v151), (42, (Value.bool false)), (46, v148), (42, (Value.bool false)), (45, v145), (42, (Value.bool false)), (44, (σ 7)), (42, (Value.bool false)), (43, (σ 0)), (42, (Value.bool false)), (42, v98), (35, (Value.bool true)), (41, v98), (35, (Value.bool true)), (40, (σ 1)), (35, (Value.bool true)), (39, v93), (35, (Value.bool true)), (38, v90), (35, (Value.bool true)), (37, (σ 7)), (35, (Value.bool true)), (36, (σ 0)), (35, (Value.bool true)), (35, v80), (34, v80), (33, (σ 6)), (32, (σ 7)), (31, (σ 7))]) h152 k)) (fun v149 h150 => k (.panic v149) (updL σ [(42, (Value.bool false)), (46, v148), (42, (Value.bool false)), (45, v145), (42, (Value.bool false)), (44, (σ 7)), (42, (Value.bool false)), (43, (σ 0)), (42, (Value.bool false)), (42, v98), (35, (Value.bool true)), (41, v98), (35, (Value.bool true)), (40, (σ 1)), (35, (Value.bool true)), (39, v93), (35, (Value.bool true)), (38, v90), (35, (Value.bool true)), (37, (σ 7)), (35, (Value.bool true)), (36, (σ 0)), (35, (Value.bool true)), (35, v80), (34, v80), (33, (σ 6)), (32, (σ 7)), (31, (σ 7))]) h150))
  (fun c101 => gd undef
  (cCall call 138 [(σ 1)] [(false, [.bool])] h (fun v206 h207 =>
  cPick (Value.tuple c101) (Go.Value.bool true) undef fun v210 =>
  cPick (Value.bool true) v210 (Go.Value.bool false) fun v213 =>
  g113_C3 call lf (updL σ [(5, v213), (4, (σ 7)), (53, v213), (52, v210), (35, (Value.bool true)), (51, undef), (42, (Value.tuple c101)), (50, v206), (48, (Value.bool true)), (49, (σ 1)), (48, (Value.bool true)), (48, undef), (42, (Value.tuple c101)), (47, undef), (42, (Value.tuple c101)), (46, undef), (42, (Value.tuple c101)), (45, undef), (42, (Value.tuple c101)), (44, undef), (42, (Value.tuple c101)), (43, undef), (42, (Value.tuple c101)), (42, v98), (35, (Value.bool true)), (41, v98), (35, (Value.bool true)), (40, (σ 1)), (35, (Value.bool true)), (39, v93), (35, (Value.bool true)), (38, v90), (35, (Value.bool true)), (37, (σ 7)), (35, (Value.bool true)), (36, (σ 0)), (35, (Value.bool true)), (35, v80), (34, v80), (33, (σ 6)), (32, (σ 7)), (31, (σ 7))]) h207 k) (fun v204 h205 => k (.panic v204) (updL σ [(48, (Value.bool true)), (49, (σ 1)), (48, (Value.bool true)), (48, undef), (42, (Value.tuple c101)), (47, undef), (42, (Value.tuple c101)), (46, undef), (42, (Value.tuple c101)), (45, undef), (42, (Value.tuple c101)), (44, undef), (42, (Value.tuple c101)), (43, undef), (42, (Value.tuple c101)), (42, v98), (35, (Value.bool true)), (41, v98), (35, (Value.bool true)), (40, (σ 1)), (35, (Value.bool true)), (39, v93), (35, (Value.bool true)), (38, v90), (35, (Value.bool true)), (37, (σ 7)), (35, (Value.bool true)), (36, (σ 0)), (35, (Value.bool true)), (35, v80), (34, v80), (33, (σ 6)), (32, (σ 7)), (31, (σ 7))]) h205))
  (cPick (Value.tuple c101) (Go.Value.bool true) undef fun v220 =>
  cPick (Value.bool true) v220 (Go.Value.bool false) fun v223 =>
  g113_C3 call lf (updL σ [(5, v223), (4, (σ 7)), (53, v223), (52, v220), (35, (Value.bool true)), (51, undef), (42, (Value.tuple c101)), (50, undef), (48, (Value.bool false)), (49, undef), (48, (Value.bool false)), (48, undef), (42, (Value.tuple c101)), (47, undef), (42, (Value.tuple c101)), (46, undef), (42, (Value.tuple c101)), (45, undef), (42, (Value.tuple c101)), (44, undef), (42, (Value.tuple c101)), (43, undef), (42, (Value.tuple c101)), (42, v98), (35, (Value.bool true)), (41, v98), (35, (Value.bool true)), (40, (σ 1)), (35, (Value.bool true)), (39, v93), (35, (Value.bool true)), (38, v90), (35, (Value.bool true)), (37, (σ 7)), (35, (Value.bool true)), (36, (σ 0)), (35, (Value.bool true)), (35, v80), (34, v80), (33, (σ 6)), (32, (σ 7)), (31, (σ 7))]) h k)
  (fun c201 => cPick (Value.tuple c101) (Go.Value.bool true) undef fun v230 =>
  cPick (Value.bool true) v230 (Go.Value.bool false) fun v233 =>
  g113_C3 call lf (updL σ [(5, v233), (4, (σ 7)), (53, v233), (52, v230), (35, (Value.bool true)), (51, undef), (42, (Value.tuple c101)), (50, undef), (48, (Value.tuple c201)), (49, undef), (48, (Value.tuple c201)), (48, undef), (42, (Value.tuple c101)), (47, undef), (42, (Value.tuple c101)), (46, undef), (42, (Value.tuple c101)), (45, undef), (42, (Value.tuple c101)), (44, undef), (42, (Value.tuple c101)), (43, undef), (42, (Value.tuple c101)), (42, v98), (35, (Value.bool true)), (41, v98), (35, (Value.bool true)), (40, (σ 1)), (35, (Value.bool true)), (39, v93), (35, (Value.bool true)), (38, v90), (35, (Value.bool true)), (37, (σ 7)), (35, (Value.bool true)), (36, (σ 0)), (35, (Value.bool true)), (35, v80), (34, v80), (33, (σ 6)), (32, (σ 7)), (31, (σ 7))]) h k)))
  (gd undef
  (gd undef
  (cCall call 138 [(σ 1)] [(false, [.bool])] h (fun v244 h245 =>
  cPick (Value.bool false) undef (Go.Value.bool false) fun v248 =>
  g113_C3 call lf (updL σ [(5, v248), (4, (σ 7)), (53, v248), (52, undef), (35, (Value.bool false)), (51, undef), (42, (Value.bool true)), (50, v244), (48, (Value.bool true)), (49, (σ 1)), (48, (Value.bool true)), (48, undef), (42, (Value.bool true)), (47, undef), (42, (Value.bool true)), (46, undef), (42, (Value.bool true)), (45, undef), (42, (Value.bool true)), (44, undef), (42, (Value.bool true)), (43, undef), (42, (Value.bool true)), (42, undef), (35, (Value.bool false)), (41, undef), (35, (Value.bool false)), (40, undef), (35, (Value.bool false)), (39, undef), (35, (Value.bool false)), (38, undef), (35, (Value.bool false)), (37, undef), (35, (Value.bool false)), (36, undef), (35, (Value.bool false)), (35, v80), (34, v80), (33, (σ 6)), (32, (σ 7)), (31, (σ 7))]) h245 k) (fun v242 h243 => k (.panic v242) (updL σ [(48, (Value.bool true)), (49, (σ 1)), (48, (Value.bool true)), (48, undef), (42, (Value.bool true)), (47, undef), (42, (Value.bool true)), (46, undef), (42, (Value.bool true)), (45, undef), (42, (Value.bool true)), (44, undef), (42, (Value.bool true)), (43, undef), (42, (Value.bool true)), (42, undef), (35, (Value.bool false)), (41, undef), (35, (Value.bool false)), (40, undef), (35, (Value.bool false)), (39, undef), (35, (Value.bool false)), (38, undef), (35, (Value.bool false)), (37, undef), (35, (Value.bool false)), (36, undef), (35, (Value.bool false)), (35, v80), (34, v80), (33, (σ 6)), (32, (σ 7)), (31, (σ 7))]) h243))
  (cPick (Value.bool false) undef (Go.Value.bool false) fun v255 =>
  g113_C3 call lf (updL σ [(5, v255), (4, (σ 7)), (53, v255), (52, undef), (35, (Value.bool false)), (51, undef), (42, (Value.bool true)), (50, undef), (48, (Value.bool false)), (49, undef), (48, (Value.bool false)), (48, undef), (42, (Value.bool true)), (47, undef), (42, (Value.bool true)), (46, undef), (42, (Value.bool true)), (45, undef), (42, (Value.bool true)), (44, undef), (42, (Value.bool true)), (43, undef), (42, (Value.bool true)), (42, undef), (35, (Value.bool false)), (41, undef), (35, (Value.bool false)), (40, undef), (35, (Value.bool false)), (39, undef), (35, (Value.bool false)), (38, undef), (35, (Value.bool false)), (37, undef), (35, (Value.bool false)), (36, undef), (35, (Value.bool false)), (35, v80), (34, v80), (33, (σ 6)), (32, (σ 7)), (31, (σ 7))]) h k)
  (fun c239 => cPick (Value.bool false) undef (Go.Value.bool false) fun v262 =>
  g113_C3 call lf (updL σ [(5, v262), (4, (σ 7)), (53, v262), (52, undef), (35, (Value.bool false)), (51, undef), (42, (Value.bool true)), (50, undef), (48, (Value.tuple c239)), (49, undef), (48, (Value.tuple c239)), (48, undef), (42, (Value.bool true)), (47, undef), (42, (Value.bool true)), (46, undef), (42, (Value.bool true)), (45, undef), (42, (Value.bool true)), (44, undef), (42, (Value.bool true)), (43, undef), (42, (Value.bool true)), (42, undef), (35, (Value.bool false)), (41, undef), (35, (Value.bool false)), (40, undef), (35, (Value.bool false)), (39, undef), (35, (Value.bool false)), (38, undef), (35, (Value.bool false)), (37, undef), (35, (Value.bool false)), (36, undef), (35, (Value.bool false)), (35, v80), (34, v80), (33, (σ 6)), (32, (σ 7)), (31, (σ 7))]) h k))
  (cIdxS 1 (σ 0) (σ 7) fun v273 =>
  cLoad1 (.int .i64) v273 h fun v276 =>
  cCall call 138 [v276] [(false, [.bool])] h (fun v279 h280 =>
  gd v279
  (cCall call 138 [(σ 1)] [(false, [.bool])] h280 (fun v288 h289 =>
  cPick (Value.bool true) v288 (Go.Value.bool false) fun v292 =>
  cPick (Value.bool false) undef (Go.Value.bool false) fun v295 =>
  g113_C3 call lf (updL σ [(5, v295), (4, (σ 7)), (53, v295), (52, undef), (35, (Value.bool false)), (51, v292), (42, (Value.bool false)), (50, v288), (48, (Value.bool true)), (49, (σ 1)), (48, (Value.bool true)), (48, v279), (42, (Value.bool false)), (47, v279), (42, (Value.bool false)), (46, v276), (42, (Value.bool false)), (45, v273), (42, (Value.bool false)), (44, (σ 7)), (42, (Value.bool false)), (43, (σ 0)), (42, (Value.bool false)), (42, undef), (35, (Value.bool false)), (41, undef), (35, (Value.bool false)), (40, undef), (35, (Value.bool false)), (39, undef), (35, (Value.bool false)), (38, undef), (35, (Value.bool false)), (37, undef), (35, (Value.bool false)), (36, undef), (35, (Value.bool false)), (35, v80), (34, v80), (33, (σ 6)), (32, (σ 7)), (31, (σ 7))]) h289 k) (fun v286 h287 => k (.panic v286) (updL σ [(48, (Value.bool true)), (49, (σ 1)), (48, (Value.bool true)), (48, v279), (42, (Value.bool false)), (47, v279), (42, (Value.bool false)), (46, v276), (42, (Value.bool false)), (45, v273), (42, (Value.bool false)), (44, (σ 7)), (42, (Value.bool false)), (43, (σ 0)), (42, (Value.bool false)), (42, undef), (35, (Value.bool false)), (41, undef), (35, (Value.bool false)), (40, undef), (35, (Value.bool false)), (39, undef), (35, (Value.bool false)), (38, undef), (35, (Value.bool false)), (37, undef), (35, (Value.bool false)), (36, undef), (35, (Value.bool false)), (35, v80), (34, v80), (33, (σ 6)), (32, (σ 7)), (31, (σ 7))]) h287))
  (cPick (Value.bool false) undef (Go.Value.bool false) fun v302 =>
  cPick (Value.bool false) undef (Go.Value.bool false) fun v305 =>
  g113_C3 call lf (updL σ [(5, v305), (4, (σ 7)), (53, v305), (52, undef), (35, (Value.bool false)), (51, v302), (42, (Value.bool false)), (50, undef), (48, (Value.bool false)), (49, undef), (48, (Value.bool false)), (48, v279), (42, (Value.bool false)), (47, v279), (42, (Value.bool false)), (46, v276), (42, (Value.bool false)), (45, v273), (42, (Value.bool false)), (44, (σ 7)), (42, (Value.bool false)), (43, (σ 0)), (42, (Value.bool false)), (42, undef), (35, (Value.bool false)), (41, undef), (35, (Value.bool false)), (40, undef), (35, (Value.bool false)), (39, undef), (35, (Value.bool false)), (38, undef), (35, (Value.bool false)), (37, undef), (35, (Value.bool false)), (36, undef), (35, (Value.bool false)), (35, v80), (34, v80), (33, (σ 6)), (32, (σ 7)), (31, (σ 7))]) h280 k)
  (fun c283 => cPick (Value.tuple c283) undef (Go.Value.bool false) fun v312 =>
  cPick (Value.bool false) undef (Go.Value.bool false) fun v315 =>
  g113_C3 call lf (updL σ [(5, v315), (4, (σ 7)), (53, v315), (52, undef), (35, (Value.bool false)), (51, v312), (42, (Value.bool false)), (50, undef), (48, (Value.tuple c283)), (49, undef), (48, (Value.tuple c283)), (48, v279), (42, (Value.bool false)), (47, v279), (42, (Value.bool false)), (46, v276), (42, (Value.bool false)), (45, v273), (42, (Value.bool false)), (44, (σ 7)), (42, (Value.bool false)), (43, (σ 0)), (42, (Value.bool false)), (42, undef), (35, (Value.bool false)), (41, undef), (35, (Value.bool false)), (40, undef), (35, (Value.bool false)), (39, undef), (35, (Value.bool false)), (38, undef), (35, (Value.bool false)), (37, undef), (35, (Value.bool false)), (36, undef), (35, (Value.bool false)), (35, v80), (34, v80), (33, (σ 6)), (32, (σ 7)), (31, (σ 7))]) h280 k)) (fun v277 h278 => k (.panic v277) (updL σ [(42, (Value.bool false)), (46, v276), (42, (Value.bool false)), (45, v273), (42, (Value.bool false)), (44, (σ 7)), (42, (Value.bool false)), (43, (σ 0)), (42, (Value.bool false)), (42, undef), (35, (Value.bool false)), (41, undef), (35, (Value.bool false)), (40, undef), (35, (Value.bool false)), (39, undef), (35, (Value.bool false)), (38, undef), (35, (Value.bool false)), (37, undef), (35, (Value.bool false)), (36, undef), (35, (Value.bool false)), (35, v80), (34, v80), (33, (σ 6)), (32, (σ 7)), (31, (σ 7))]) h278))
  (fun c238 => gd undef
  (cCall call 138 [(σ 1)] [(false, [.bool])] h (fun v325 h326 =>
  cPick (Value.bool false) undef (Go.Value.bool false) fun v329 =>
  g113_C3 call lf (updL σ [(5, v329), (4, (σ 7)), (53, v329), (52, undef), (35, (Value.bool false)), (51, undef), (42, (Value.tuple c238)), (50, v325), (48, (Value.bool true)), (49, (σ 1)), (48, (Value.bool true)), (48, undef), (42, (Value.tuple c238)), (47, undef), (42, (Value.tuple c238)), (46, undef), (42, (Value.tuple c238)), (45, undef), (42, (Value.tuple c238)), (44, undef), (42, (Value.tuple c238)), (43, undef), (42, (Value.tuple c238)), (42, undef), (35, (Value.bool false)), (41, undef), (35, (Value.bool false)), (40, undef), (35, (Value.bool false)), (39, undef), (35, (Value.bool false)), (38, undef), (35, (Value.bool false)), (37, undef), (35, (Value.bool false)), (36, undef), (35, (Value.bool false)), (35, v80), (34, v80), (33, (σ 6)), (32, (σ 7)), (31, (σ 7))]) h326 k) (fun v323 h324 => k (.panic v323) (updL σ [(48, (Value.bool true)), (49, (σ 1)), (48, (Value.bool true)), (48, undef), (42, (Value.tuple c238)), (47, undef), (42, (Value.tuple c238)), (46, undef), (42, (Value.tuple c238)), (45, undef), (42, (Value.tuple c238)), (44, undef), (42, (Value.tuple c238)), (43, undef), (42, (Value.tuple c238)), (42, undef), (35, (Value.bool false)), (41, undef), (35, (Value.bool false)), (40, undef), (35, (Value.bool false)), (39, undef), (35, (Value.bool false)), (38, undef), (35, (Value.bool false)), (37, undef), (35, (Value.bool false)), (36, undef), (35, (Value.bool false)), (35, v80), (34, v80), (33, (σ 6)), (32, (σ 7)), (31, (σ 7))]) h324))
  (cPick (Value.bool false) undef (Go.Value.bool false) fun v336 =>
  g113_C3 call lf (updL σ [(5, v336), (4, (σ 7)), (53, v336), (52, undef), (35, (Value.bool false)), (51, undef), (42, (Value.tuple c238)), (50, undef), (48, (Value.bool false)), (49, undef), (48, (Value.bool false)), (48, undef), (42, (Value.tuple c238)), (47, undef), (42, (Value.tuple c238)), (46, undef), (42, (Value.tuple c238)), (45, undef), (42, (Value.tuple c238)), (44, undef), (42, (Value.tuple c238)), (43, undef), (42, (Value.tuple c238)), (42, undef), (35, (Value.bool false)), (41, undef), (35, (Value.bool false)), (40, undef), (35, (Value.bool false)), (39, undef), (35, (Value.bool false)), (38, undef), (35, (Value.bool false)), (37, undef), (35, (Value.bool false)), (36, undef), (35, (Value.bool false)), (35, v80), (34, v80), (33, (σ 6)), (32, (σ 7)), (31, (σ 7))]) h k)
  (fun c320 => cPick (Value.bool false) undef (Go.Value.bool false) fun v343 =>
  g113_C3 call lf (updL σ [(5, v343), (4, (σ 7)), (53, v343), (52, undef), (35, (Value.bool false)), (51, undef), (42, (Value.tuple c238)), (50, undef), (48, (Value.tuple c320)), (49, undef), (48, (Value.tuple c320)), (48, undef), (42, (Value.tuple c238)), (47, undef), (42, (Value.tuple c238)), (46, undef), (42, (Value.tuple c238)), (45, undef), (42, (Value.tuple c238)), (44, undef), (42, (Value.tuple c238)), (43, undef), (42, (Value.tuple c238)), (42, undef), (35, (Value.bool false)), (41, undef), (35, (Value.bool false)), (40, undef), (35, (Value.bool false)), (39, undef), (35, (Value.bool false)), (38, undef), (35, (Value.bool false)), (37, undef), (35, (Value.bool false)), (36, undef), (35, (Value.bool false)), (35, v80), (34, v80), (33, (σ 6)), (32, (σ 7)), (31, (σ 7))]) h k)))
  (fun c83 => gd undef
  (gd undef
  (cCall call 138 [(σ 1)] [(false, [.bool])] h (fun v354 h355 =>
  cPick (Value.tuple c83) undef (Go.Value.bool false) fun v358 =>
  g113_C3 call lf (updL σ [(5, v358), (4, (σ 7)), (53, v358), (52, undef), (35, (Value.tuple c83)), (51, undef), (42, (Value.bool true)), (50, v354), (48, (Value.bool true)), (49, (σ 1)), (48, (Value.bool true)), (48, undef), (42, (Value.bool true)), (47, undef), (42, (Value.bool true)), (46, undef), (42, (Value.bool true)), (45, undef), (42, (Value.bool true)), (44, undef), (42, (Value.bool true)), (43, undef), (42, (Value.bool true)), (42, undef), (35, (Value.tuple c83)), (41, undef), (35, (Value.tuple c83)), (40, undef), (35, (Value.tuple c83)), (39, undef), (35, (Value.tuple c83)), (38, undef), (35, (Value.tuple c83)), (37, undef), (35, (Value.tuple c83)), (36, undef), (35, (Value.tuple c83)), (35, v80), (34, v80), (33, (σ 6)), (32, (σ 7)), (31, (σ 7))]) h355 k) (fun v352 h353 => k (.panic v352) (updL σ [(48, (Value.bool true)), (49, (σ 1)), (48, (Value.bool true)), (48, undef), (42, (Value.bool true)), (47, undef), (42, (Value.bool true)), (46, undef), (42, (Value.bool true)), (45, undef), (42, (Value.bool true)), (44, undef), (42, (Value.bool true)), (43, undef), (42, (Value.bool true)), (42, undef), (35, (Value.tuple c83)), (41, undef), (35, (Value.tuple c83)), (40, undef), (35, (Value.tuple c83)), (39, undef), (35, (Value.tuple c83)), (38, undef), (35, (Value.tuple c83)), (37, undef), (35, (Value.tuple c83)), (36, undef), (35, (Value.tuple c83)), (35, v80), (34, v80), (33, (σ 6)), (32, (σ 7)), (31, (σ 7))]) h353))
  (cPick (Value.tuple c83) undef (Go.Value.bool false) fun v365 =>
  g113_C3 call lf (updL σ [(5, v365), (4, (σ 7)), (53, v365), (52, undef), (35, (Value.tuple c83)), (51, undef), (42, (Value.bool true)), (50, undef), (48, (Value.bool false)), (49, undef), (48, (Value.bool false)), (48, undef), (42, (Value.bool true)), (47, undef), (42, (Value.bool true)), (46, undef), (42, (Value.bool true)), (45, undef), (42, (Value.bool true)), (44, undef), (42, (Value.bool true)), (43, undef), (42, (Value.bool true)), (42, undef), (35, (Value.tuple c83)), (41, undef), (35, (Value.tuple c83)), (40, undef), (35, (Value.tuple c83)), (39, undef), (35, (Value.tuple c83)), (38, undef), (35, (Value.tuple c83)), (37, undef), (35, (Value.tuple c83)), (36, undef), (35, (Value.tuple c83)), (35, v80), (34, v80), (33, (σ 6)), (32, (σ 7)), (31, (σ 7))]) h k)
  (fun c349 => cPick (Value.tuple c83) undef (Go.Value.bool false) fun v372 =>
  g113_C3 call lf (updL σ [(5, v372), (4, (σ 7)), (53, v372), (52, undef), (35, (Value.tuple c83)), (51, undef), (42, (Value.bool true)), (50, undef), (48, (Value.tuple c349)), (49, undef), (48, (Value.tuple c349)), (48, undef), (42, (Value.bool true)), (47, undef), (42, (Value.bool true)), (46, undef), (42, (Value.bool true)), (45, undef), (42, (Value.bool true)), (44, undef), (42, (Value.bool true)), (43, undef), (42, (Value.bool true)), (42, undef), (35, (Value.tuple c83)), (41, undef), (35, (Value.tuple c83)), (40, undef), (35, (Value.tuple c83)), (39, undef), (35, (Value.tuple c83)), (38, undef), (35, (Value.tuple c83)), (37, undef), (35, (Value.tuple c83)), (36, undef), (35, (Value.tuple c83)), (35, v80), (34, v80), (33, (σ 6)), (32, (σ 7)), (31, (σ 7))]) h k))
  (cIdxS 1 (σ 0) (σ 7) fun v383 =>
  cLoad1 (.int .i64) v383 h fun v386 =>
  cCall call 138 [v386] [(false, [.bool])] h (fun v389 h390 =>
  gd v389
  (cCall call 138 [(σ 1)] [(false, [.bool])] h390 (fun v398 h399 =>
  cPick (Value.bool true) v398 (Go.Value.bool false) fun v402 =>
  cPick (Value.tuple c83) undef (Go.Value.bool false) fun v405 =>
  g113_C3 call lf (updL σ [(5, v405), (4, (σ 7)), (53, v405), (52, undef), (35, (Value.tuple c83)), (51, v402), (42, (Value.bool false)), (50, v398), (48, (Value.bool true)), (49, (σ 1)), (48, (Value.bool true)), (48, v389), (42, (Value.bool false)), (47, v389), (42, (Value.bool false)), (46, v386), (42, (Value.bool false)), (45, v383), (42, (Value.bool false)), (44, (σ 7)), (42, (Value.bool false)), (43, (σ 0)), (42, (Value.bool false)), (42, undef), (35, (Value.tuple c83)), (41, undef), (35, (Value.tuple c83)), (40, undef), (35, (Value.tuple c83)), (39, undef), (35, (Value.tuple c83)), (38, undef), (35, (Value.tuple c83)), (37, undef), (35, (Value.tuple c83)), (36, undef), (35, (Value.tuple c83)), (35, v80), (34, v80), (33, (σ 6)), (32, (σ 7)), (31, (σ 7))]) h399 k) (fun v396 h397 => k (.panic v396) (updL σ [(48, (Value.bool true)), (49, (σ 1)), (48, (Value.bool true)), (48, v389), (42, (Value.bool false)), (47, v389), (42, (Value.bool false)), (46, v386), (42, (Value.bool false)), (45, v383), (42, (Value.bool false)), (44, (σ 7)), (42, (Value.bool false)), (43, (σ 0)), (42, (Value.bool false)), (42, undef), (35, (Value.tuple c83)), (41, undef), (35, (Value.tuple c83)), (40, undef), (35, (Value.tuple c83)), (39, undef), (35, (Value.tuple c83)), (38, undef), (35, (Value.tuple c83)), (37, undef), (35, (Value.tuple c83)), (36, undef), (35, (Value.tuple c83)), (35, v80), (34, v80), (33, (σ 6)), (32, (σ 7)), (31, (σ 7))]) h397))
  (cPick (Value.bool false) undef (Go.Value.bool false) fun v412 =>
  cPick (Value.tuple c83) undef (Go.Value.bool false) fun v415 =>
  g113_C3 call lf (updL σ [(5, v415), (4, (σ 7)), (53, v415), (52, undef), (35, (Value.tuple c83)), (51, v412), (42, (Value.bool false)), (50, undef), (48, (Value.bool false)), (49, undef), (48, (Value.bool false)), (48, v389), (42, (Value.bool false)), (47, v389), (42, (Value.bool false)), (46, v386), (42, (Value.bool false)), (45, v383), (42, (Value.bool false)), (44, (σ 7)), (42, (Value.bool false)), (43, (σ 0)), (42, (Value.bool false)), (42, undef), (35, (Value.tuple c83)), (41, undef), (35, (Value.tuple c83)), (40, undef), (35, (Value.tuple c83)), (39, undef), (35, (Value.tuple c83)), (38, undef), (35, (Value.tuple c83)), (37, undef), (35, (Value.tuple c83)), (36, undef), (35, (Value.tuple c83)), (35, v80), (34, v80), (33, (σ 6)), (32, (σ 7)), (31, (σ 7))]) h390 k)
  (fun c393 => cPick (Value.tuple c393) undef (Go.Value.bool false) fun v422 =>
  cPick (Value.tuple c83) undef (Go.Value.bool false) fun v425 =>
  g113_C3 call lf (updL σ [(5, v425), (4, (σ 7)), (53, v425), (52, undef), (35, (Value.tuple c83)), (51, v422), (42, (Value.bool false)), (50, undef), (48, (Value.tuple c393)), (49, undef), (48, (Value.tuple c393)), (48, v389), (42, (Value.bool false)), (47, v389), (42, (Value.bool false)), (46, v386), (42, (Value.bool false)), (45, v383), (42, (Value.bool false)), (44, (σ 7)), (42, (Value.bool false)), (43, (σ 0)), (42, (Value.bool false)), (42, undef), (35, (Value.tuple c83)), (41, undef), (35, (Value.tuple c83)), (40, undef), (35, (Value.tuple c83)), (39, undef), (35, (Value.tuple c83)), (38, undef), (35, (Value.tuple c83)), (37, undef), (35, (Value.tuple c83)), (36, undef), (35, (Value.tuple c83)), (35, v80), (34, v80), (33, (σ 6)), (32, (σ 7)), (31, (σ 7))]) h390 k)) (fun v387 h388 => k (.panic v387) (updL σ [(42, (Value.bool false)), (46, v386), (42, (Value.bool false)), (45, v383), (42, (Value.bool false)), (44, (σ 7)), (42, (Value.bool false)), (43, (σ 0)), (42, (Value.bool false)), (42, undef), (35, (Value.tuple c83)), (41, undef), (35, (Value.tuple c83)), (40, undef), (35, (Value.tuple c83)), (39, undef), (35, (Value.tuple c83)), (38, undef), (35, (Value.tuple c83)), (37, undef), (35, (Value.tuple c83)), (36, undef), (35, (Value.tuple c83)), (35, v80), (34, v80), (33, (σ 6)), (32, (σ 7)), (31, (σ 7))]) h388))
  (fun c348 => gd undef
  (cCall call 138 [(σ 1)] [(false, [.bool])] h (fun v435 h436 =>
  cPick (Value.tuple c83) undef (Go.Value.bool false) fun v439 =>
  g113_C3 call lf (updL σ [(5, v439), (4, (σ 7)), (53, v439), (52, undef), (35, (Value.tuple c83)), (51, undef), (42, (Value.tuple c348)), (50, v435), (48, (Value.bool true)), (49, (σ 1)), (48, (Value.bool true)), (48, undef), (42, (Value.tuple c348)), (47, undef), (42, (Value.tuple c348)), (46, undef), (42, (Value.tuple c348)), (45, undef), (42, (Value.tuple c348)), (44, undef), (42, (Value.tuple c348)), (43, undef), (42, (Value.tuple c348)), (42, undef), (35, (Value.tuple c83)), (41, undef), (35, (Value.tuple c83)), (40, undef), (35, (Value.tuple c83)), (39, undef), (35, (Value.tuple c83)), (38, undef), (35, (Value.tuple c83)), (37, undef), (35, (Value.tuple c83)), (36, undef), (35, (Value.tuple c83)), (35, v80), (34, v80), (33, (σ 6)), (32, (σ 7)), (31, (σ 7))]) h436 k) (fun v433 h434 => k (.panic v433) (updL σ [(48, (Value.bool true)), (49, (σ 1)), (48, (Value.bool true)), (48, undef), (42, (Value.tuple c348)), (47, undef), (42, (Value.tuple c348)), (46, undef), (42, (Value.tuple c348)), (45, undef), (42, (Value.tuple c348)), (44, undef), (42, (Value.tuple c348)), (43, undef), (42, (Value.tuple c348)), (42, undef), (35, (Value.tuple c83)), (41, undef), (35, (Value.tuple c83)), (40, undef), (35, (Value.tuple c83)), (39, undef), (35, (Value.tuple c83)), (38, undef), (35, (Value.tuple c83)), (37, undef), (35, (Value.tuple c83)), (36, undef), (35, (Value.tuple c83)), (35, v80), (34, v80), (33, (σ 6)), (32, (σ 7)), (31, (σ 7))]) h434))
  (cPick (Value.tuple c83) undef (Go.Value.bool false) fun v446 =>
  g113_C3 call lf (updL σ [(5, v446), (4, (σ 7)), (53, v446), (52, undef), (35, (Value.tuple c83)), (51, undef), (42, (Value.tuple c348)), (50, undef), (48, (Value.bool false)), (49, undef), (48, (Value.bool false)), (48, undef), (42, (Value.tuple c348)), (47, undef), (42, (Value.tuple c348)), (46, undef), (42, (Value.tuple c348)), (45, undef), (42, (Value.tuple c348)), (44, undef), (42, (Value.tuple c348)), (43, undef), (42, (Value.tuple c348)), (42, undef), (35, (Value.tuple c83)), (41, undef), (35, (Value.tuple c83)), (40, undef), (35, (Value.tuple c83)), (39, undef), (35, (Value.tuple c83)), (38, undef), (35, (Value.tuple c83)), (37, undef), (35, (Value.tuple c83)), (36, undef), (35, (Value.tuple c83)), (35, v80), (34, v80), (33, (σ 6)), (32, (σ 7)), (31, (σ 7))]) h k)
  (fun c430 => cPick (Value.tuple c83) undef (Go.Value.bool false) fun v453 =>
  g113_C3 call lf (updL σ [(5, v453), (4, (σ 7)), (53, v453), (52, undef), (35, (Value.tuple c83)), (51, undef), (42, (Value.tuple c348)), (50, undef), (48, (Value.tuple c430)), (49, undef), (48, (Value.tuple c430)), (48, undef), (42, (Value.tuple c348)), (47, undef), (42, (Value.tuple c348)), (46, undef), (42, (Value.tuple c348)), (45, undef), (42, (Value.tuple c348)), (44, undef), (42, (Value.tuple c348)), (43, undef), (42, (Value.tuple c348)), (42, undef), (35, (Value.tuple c83)), (41, undef), (35, (Value.tuple c83)), (40, undef), (35, (Value.tuple c83)), (39, undef), (35, (Value.tuple c83)), (38, undef), (35, (Value.tuple c83)), (37, undef), (35, (Value.tuple c83)), (36, undef), (35, (Value.tuple c83)), (35, v80), (34, v80), (33, (σ 6)), (32, (σ 7)), (31, (σ 7))]) h k)))
noncomputable def g113 (call : Call) (lf : Nat) (σ : St) (h : AHeap) (k : KS) : Option Ans :=
  cLenS (σ 0) fun v9 =>
  loopS (g113_L1 call lf) lf (updL σ [(8, v9), (7, (Go.Value.int Go.IntKind.i64 0)), (12, v9), (6, v9), (11, v9), (10, (σ 0)), (5, (Go.Value.bool false)), (4, (Go.Value.int Go.IntKind.i64 0))]) h (hBlk 0 (hSeq (fun σ h => g113_C2 call lf σ h k) k))
theorem g113_eq (call : Call) (lf : Nat) (args : List Value) (h : AHeap) : evB EK call lf 113 args h = g113 call lf (st0 args) h (finS EK [.tmp 4, .tmp 5]) := by kernel_rfl
theorem c113 (call : Call) (args : List Value) (h : AHeap) (K kp : K2) : evCall EK call 113 args h K kp = cCall call 113 args [(false, [.int .i64]), (false, [.bool])] h K kp := by kernel_rfl
-- "kerf/nfa.Reverse"
noncomputable def g133_L2 (call : Call) (lf : Nat) (σ : St) (h : AHeap) (k : KS) : Option Ans :=
  cBin EK .lss 3 (σ 35) (σ 34) fun v113 =>
  cIf v113
  (cIdxS 2 (σ 33) (σ 35) fun v116 =>
  cLoadA [.slc, .int .i64] v116 h fun v119 =>
  cNew [(.slice none 0 0), (.int .i64 (0))] 106 h fun v122 h123 =>
  cStore 2 v122 v119 h123 fun h126 =>
  cFieldAddr 0 (σ 3) fun v129 =>
  cLoad1 (.slc) v129 h126 fun v132 =>
  cFieldAddr 1 v122 fun v135 =>
  cLoad1 (.int .i64) v135 h126 fun v138 =>
  cIdxS 2 v132 v138 fun v141 =>
  dr (cNilCheck v141 fun v146 =>
  rety v146 h126) fun v144 h145 =>
  dr (cFieldAddr 0 v144 fun v149 =>
  rety v149 h145) fun v147 h148 =>
  dr (cLoad1 (.slc) v147 h148 fun v152 =>
  rety v152 h148) fun v150 h151 =>
  dr (cFieldAddr 0 v122 fun v155 =>
  rety v155 h151) fun v153 h154 =>
  dr (cLoad1 (.slc) v153 h154 fun v158 =>
  rety v158 h154) fun v156 h157 =>
  dr (cCall call 54 [v156] [(false, [.slc])] h157 (fun v161 h162 =>
  rety v161 h162) nopan) fun v159 h160 =>
  rk (rety (σ 4) h160) (σ 4) (
  rk (cLoad1 (.slc) v147 h160 fun v163 =>
  rety v163 h160) v150 (
  rk (cFieldAddr 0 v144 fun v164 =>
  rety v164 h160) v147 (
  rk (cNilCheck v141 fun v165 =>
  rety v165 h160) v144 (
  rk (rety v141 h160) v141 (
  rk (rety v141 h160) v141 (
  dr (cBuild [(0, 1, v159), (1, 1, (σ 4))] [(.slice none 0 0), (.int .i64 (0))] fun v168 =>
  rety v168 h160) fun v166 h167 =>
  dr (cBuildS 106 1 [(0, 2, v166)] [(.slice none 0 0), (.int .i64 (0))] h167 fun v171 h172 =>
  rety v171 h172) fun v169 h170 =>
  rk (cLoad1 (.slc) v147 h170 fun v173 =>
  rety v173 h170) v150 (
  rk (cFieldAddr 0 v144 fun v174 =>
  rety v174 h170) v147 (
  rk (cNilCheck v141 fun v175 =>
  rety v175 h170) v144 (
  rk (rety v141 h170) v141 (
  rk (rety v141 h170) v141 (
  dr (cAppend 106 2 32 v150 v169 h170 fun v178 h179 =>
  rety v178 h179) fun v176 h177 =>
  rk (rety v141 h177) v141 (
  dr (cNilCheck v141 fun v182 =>
  rety v182 h177) fun v180 h181 =>
  dr (cFieldAddr 0 v180 fun v185 =>
  rety v185 h181) fun v183 h184 =>
  dr (cStore 1 v183 v176 h184 fun h188 =>
  rety undef h188) fun v186 h187 =>
  cBin EK .add 3 (σ 35) (Go.Value.int Go.IntKind.i64 1) fun v191 =>
  k .normal (updL σ [(35, v191), (58, v191), (57, v183), (56, v180), (55, v176), (54, v169), (53, v166), (51, v159), (52, (σ 4)), (50, v156), (49, v153), (48, v150), (47, v147), (46, v144), (45, v141), (44, v141), (8, v141), (43, v141), (42, v138), (41, v135), (40, v132), (39, v129), (7, v122), (38, v119), (37, v116), (36, v113)]) h187)))))))))))))
  (k (.exit 2) (updL σ [(36, v113)]) h)
noncomputable def g133_L4 (call : Call) (lf : Nat) (σ : St) (h : AHeap) (k : KS) : Option Ans :=
  cBin EK .lss 3 (σ 62) (σ 61) fun v207 =>
  cIf v207
  (cIdxS 1 (σ 60) (σ 62) fun v210 =>
  cLoad1 (.int .i64) v210 h fun v213 =>
  dr (cFieldAddr 0 (σ 3) fun v218 =>
  rety v218 h) fun v216 h217 =>
  dr (cLoad1 (.slc) v216 h217 fun v221 =>
  rety v221 h217) fun v219 h220 =>
  dr (cFieldAddr 0 (σ 3) fun v224 =>
  rety v224 h220) fun v222 h223 =>
  dr (cLoad1 (.slc) v222 h223 fun v227 =>
  rety v227 h223) fun v225 h226 =>
  dr (cIdxS 2 v225 v213 fun v230 =>
  rety v230 h226) fun v228 h229 =>
  dr (cFieldAddr 1 v228 fun v233 =>
  rety v233 h229) fun v231 h232 =>
  dr (cLoad1 (.slc) v231 h232 fun v236 =>
  rety v236 h232) fun v234 h235 =>
  dr (cBuildS 3 1 [(0, 1, (σ 4))] [(.int .i64 (0))] h235 fun v239 h240 =>
  rety v239 h240) fun v237 h238 =>
  hk (ob (fillP [(0, 1, (σ 4))] [(.int .i64 (0))]) fun l241 => some (l241, 3)) v237 h238 (
  rk (rety (σ 4) h238) (σ 4) (
  rk (cLoad1 (.slc) v231 h238 fun v242 =>
  rety v242 h238) v234 (
  rk (cFieldAddr 1 v228 fun v243 =>
  rety v243 h238) v231 (
  rk (cIdxS 2 v225 v213 fun v244 =>
  rety v244 h238) v228 (
  rk (rety v213 h238) v213 (
  rk (cLoad1 (.slc) v222 h238 fun v245 =>
  rety v245 h238) v225 (
  rk (cFieldAddr 0 (σ 3) fun v246 =>
  rety v246 h238) v222 (
  rk (rety v213 h238) v213 (
  rk (cLoad1 (.slc) v216 h238 fun v247 =>
  rety v247 h238) v219 (
  rk (cFieldAddr 0 (σ 3) fun v248 =>
  rety v248 h238) v216 (
  dr (cAppend 3 1 8 v234 v237 h238 fun v251 h252 =>
  rety v251 h252) fun v249 h250 =>
  rk (rety v213 h250) v213 (
  rk (cLoad1 (.slc) v216 h250 fun v253 =>
  rety v253 h250) v219 (
  rk (cFieldAddr 0 (σ 3) fun v254 =>
  rety v254 h250) v216 (
  dr (cIdxS 2 v219 v213 fun v257 =>
  rety v257 h250) fun v255 h256 =>
  dr (cFieldAddr 1 v255 fun v260 =>
  rety v260 h256) fun v258 h259 =>
  dr (cStore 1 v258 v249 h259 fun h263 =>
  rety undef h263) fun v261 h262 =>
  cBin EK .add 3 (σ 62) (Go.Value.int Go.IntKind.i64 1) fun v266 =>
  k .normal (updL σ [(62, v266), (80, v266), (79, v258), (78, v255), (77, v249), (76, v237), (75, (σ 4)), (74, v234), (73, v231), (72, v228), (71, v213), (70, v225), (69, v222), (68, v213), (67, v219), (66, v216), (10, v213), (65, v213), (64, v210), (63, v207)]) h262)))))))))))))))
  (k (.exit 4) (updL σ [(63, v207)]) h)
noncomputable def g133_C5 (call : Call) (lf : Nat) (σ : St) (h : AHeap) (k : KS) : Option Ans :=
  cBin EK .add 3 (σ 27) (Go.Value.int Go.IntKind.i64 1) fun v271 =>
  k .normal (updL σ [(27, v271), (81, v271)]) h
noncomputable def g133_C3 (call : Call) (lf : Nat) (σ : St) (h : AHeap) (k : KS) : Option Ans :=
  cFieldAddr 1 (σ 5) fun v196 =>
  cLoad1 (.slc) v196 h fun v199 =>
  cLenS v199 fun v202 =>
  loopS (g133_L4 call lf) lf (updL σ [(62, (Go.Value.int Go.IntKind.i64 0)), (61, v202), (60, v199), (59, v196)]) h (hBlk 4 (hBlk 1 (hSeq (fun σ h => g133_C5 call lf σ h k) k)))
noncomputable def g133_L1 (call : Call) (lf : Nat) (σ : St) (h : AHeap) (k : KS) : Option Ans :=
  cBin EK .lss 3 (σ 27) (σ 26) fun v82 =>
  cIf v82
  (cIdxS 2 (σ 25) (σ 27) fun v87 =>
  cLoadA [.slc, .slc] v87 h fun v90 =>
  cNew [(.slice none 0 0), (.slice none 0 0)] 102 h fun v93 h94 =>
  cStore 2 v93 v90 h94 fun h99 =>
  cFieldAddr 0 v93 fun v102 =>
  cLoad1 (.slc) v102 h99 fun v105 =>
  cLenS v105 fun v108 =>
  loopS (g133_L2 call lf) lf (updL σ [(35, (Go.Value.int Go.IntKind.i64 0)), (34, v108), (33, v105), (32, v102), (4, (σ 27)), (5, v93), (31, v90), (30, v87), (29, (σ 27)), (28, v82)]) h99 (hBlk 2 (hSeq (fun σ h => g133_C3 call lf σ h k) (hBlk 1 (hSeq (fun σ h => g133_C5 call lf σ h k) k)))))
  (k (.exit 0) (updL σ [(28, v82)]) h)
noncomputable def g133_C6 (call : Call) (lf : Nat) (σ : St) (h : AHeap) (k : KS) : Option Ans :=
  cLoadA [.slc, .int .i64, .int .i64] (σ 3) h fun v276 =>
  cStore 3 (σ 2) v276 h fun h279 =>
  k .ret (updL σ [(82, v276)]) h279
noncomputable def g133 (call : Call) (lf : Nat) (σ : St) (h : AHeap) (k : KS) : Option Ans :=
  cNew (σ 0).cells.toList 67 h fun v3 h4 =>
  cNew [(.slice none 0 0), (.int .i64 (0)), (.int .i64 (0))] 67 h4 fun v7 h8 =>
  cLoadA [.slc, .int .i64, .int .i64] v3 h8 fun v11 =>
  cCall call 72 [v11] [(false, [.bool])] h8 (fun v14 h15 =>
  cUn .not v14 fun v18 =>
  cIf v18
  (cBuild [] [(.slice none 0 0), (.int .i64 (0)), (.int .i64 (0))] fun v21 =>
  cStore 3 v7 v21 h15 fun h24 =>
  k .ret (updL σ [(14, v21), (13, v18), (12, v14), (11, v11), (2, v7), (1, v3)]) h24)
  (dr (cFieldAddr 0 v3 fun v27 =>
  rety v27 h15) fun v25 h26 =>
  dr (cLoad1 (.slc) v25 h26 fun v30 =>
  rety v30 h26) fun v28 h29 =>
  dr (cLenS v28 fun v33 =>
  rety v33 h29) fun v31 h32 =>
  dr (cFieldAddr 2 v3 fun v36 =>
  rety v36 h32) fun v34 h35 =>
  dr (cLoad1 (.int .i64) v34 h35 fun v39 =>
  rety v39 h35) fun v37 h38 =>
  dr (cFieldAddr 1 v3 fun v42 =>
  rety v42 h38) fun v40 h41 =>
  dr (cLoad1 (.int .i64) v40 h41 fun v45 =>
  rety v45 h41) fun v43 h44 =>
  cNew [(.slice none 0 0), (.int .i64 (0)), (.int .i64 (0))] 67 h44 fun v46 h47 =>
  hk (some ([(.slice none 0 0), (.int .i64 (0)), (.int .i64 (0))], 67)) v46 h47 (
  rk (cLoad1 (.int .i64) v40 h47 fun v48 =>
  rety v48 h47) v43 (
  rk (cFieldAddr 1 v3 fun v49 =>
  rety v49 h47) v40 (
  rk (cLoad1 (.int .i64) v34 h47 fun v50 =>
  rety v50 h47) v37 (
  rk (cFieldAddr 2 v3 fun v51 =>
  rety v51 h47) v34 (
  rk (cLenS v28 fun v52 =>
  rety v52 h47) v31 (
  rk (cLoad1 (.slc) v25 h47 fun v53 =>
  rety v53 h47) v28 (
  rk (cFieldAddr 0 v3 fun v54 =>
  rety v54 h47) v25 (
  dr (cMakeS 102 [(.slice none 0 0), (.slice none 0 0)] 48 v31 v31 h47 fun v57 h58 =>
  rety v57 h58) fun v55 h56 =>
  hk (some ([(.slice none 0 0), (.int .i64 (0)), (.int .i64 (0))], 67)) v46 h56 (
  rk (cLoad1 (.int .i64) v40 h56 fun v59 =>
  rety v59 h56) v43 (
  rk (cFieldAddr 1 v3 fun v60 =>
  rety v60 h56) v40 (
  rk (cLoad1 (.int .i64) v34 h56 fun v61 =>
  rety v61 h56) v37 (
  rk (cFieldAddr 2 v3 fun v62 =>
  rety v62 h56) v34 (
  dr (cBuild [(0, 1, v55), (1, 1, v37), (2, 1, v43)] [(.slice none 0 0), (.int .i64 (0)), (.int .i64 (0))] fun v65 =>
  rety v65 h56) fun v63 h64 =>
  dr (cStore 3 v46 v63 h64 fun h68 =>
  rety undef h68) fun v66 h67 =>
  cFieldAddr 0 v3 fun v71 =>
  cLoad1 (.slc) v71 h67 fun v74 =>
  cLenS v74 fun v77 =>
  loopS (g133_L1 call lf) lf (updL σ [(27, (Go.Value.int Go.IntKind.i64 0)), (26, v77), (25, v74), (24, v71), (23, v63), (18, v55), (3, v46), (22, v43), (21, v40), (20, v37), (19, v34), (17, v31), (16, v28), (15, v25), (13, v18), (12, v14), (11, v11), (2, v7), (1, v3)]) h67 (hBlk 0 (hSeq (fun σ h => g133_C6 call lf σ h k) k))))))))))))))))) (fun v12 h13 => k (.panic v12) (updL σ [(11, v11), (2, v7), (1, v3)]) h13)
theorem g133_eq (call : Call) (lf : Nat) (args : List Value) (h : AHeap) : evB EK call lf 133 args h = g133 call lf (st0 args) h (finS EK [.cell 2 67]) := by kernel_rfl
theorem c133 (call : Call) (args : List Value) (h : AHeap) (K kp : K2) : evCall EK call 133 args h K kp = cCall call 133 args [(true, [.slc, .int .i64, .int .i64])] h K kp := by kernel_rfl
-- "(*kerf/nfa.finder).walk"
noncomputable def g134_L2 (call : Call) (lf : Nat) (σ : St) (h : AHeap) (k : KS) : Option Ans :=
  cBin EK .lss 3 (σ 46) (Go.Value.int Go.IntKind.i64 64) fun v83 =>
  cIf v83
  (cNilCheck (σ 0) fun v92 =>
  cFieldAddr 0 v92 fun v95 =>
  cLoadA [.slc, .int .i64, .int .i64] v95 h fun v98 =>
  cCall call 74 [v98, (σ 1), (σ 46)] [(false, [.slc])] h (fun v105 h106 =>
  cLenS v105 fun v113 =>
  cBin EK .eql 3 v113 (Go.Value.int Go.IntKind.i64 0) fun v116 =>
  cIf v116
  (cBin EK .add 3 (σ 46) (Go.Value.int Go.IntKind.i64 1) fun v119 =>
  k .normal (updL σ [(46, v119), (88, v119), (58, v116), (57, v113), (56, v105), (7, v105), (55, v105), (54, (σ 46)), (53, (σ 1)), (52, v98), (51, v95), (50, v92), (49, (σ 0)), (6, (σ 46)), (48, (σ 46)), (47, v83)]) h106)
  (cNilCheck (σ 0) fun v128 =>
  cFieldAddr 4 v128 fun v131 =>
  cLoad1 (.slc) v131 h106 fun v134 =>
  cBuildS 3 1 [(0, 1, (σ 46))] [(.int .i64 (0))] h106 fun v139 h140 =>
  cAppend 3 1 8 v134 v139 h140 fun v143 h144 =>
  cNilCheck (σ 0) fun v147 =>
  cFieldAddr 4 v147 fun v150 =>
  cStore 1 v150 v143 h144 fun h153 =>
  cBin EK .sub 3 (σ 2) (Go.Value.int Go.IntKind.i64 1) fun v162 =>
  cCall call 134 [(σ 0), v105, v162] [] h153 (fun v165 h166 =>
  dr (cNilCheck (σ 0) fun v169 =>
  rety v169 h166) fun v167 h168 =>
  dr (cFieldAddr 4 v167 fun v172 =>
  rety v172 h168) fun v170 h171 =>
  dr (cLoad1 (.slc) v170 h171 fun v175 =>
  rety v175 h171) fun v173 h174 =>
  dr (cNilCheck (σ 0) fun v178 =>
  rety v178 h174) fun v176 h177 =>
  dr (cFieldAddr 4 v176 fun v181 =>
  rety v181 h177) fun v179 h180 =>
  dr (cLoad1 (.slc) v179 h180 fun v184 =>
  rety v184 h180) fun v182 h183 =>
  dr (cLenS v182 fun v187 =>
  rety v187 h183) fun v185 h186 =>
  dr (cBin EK .sub 3 v185 (Go.Value.int Go.IntKind.i64 1) fun v190 =>
  rety v190 h186) fun v188 h189 =>
  dr (cSliceS 1 v173 none (some v188) none h189 fun v193 =>
  rety v193 h189) fun v191 h192 =>
  dr (cNilCheck (σ 0) fun v196 =>
  rety v196 h192) fun v194 h195 =>
  dr (cFieldAddr 4 v194 fun v199 =>
  rety v199 h195) fun v197 h198 =>
  dr (cStore 1 v197 v191 h198 fun h202 =>
  rety undef h202) fun v200 h201 =>
  cBin EK .add 3 (σ 46) (Go.Value.int Go.IntKind.i64 1) fun v205 =>
  k .normal (updL σ [(46, v205), (88, v205), (87, v197), (86, v194), (85, v191), (84, v188), (83, v185), (82, v182), (81, v179), (80, v176), (79, (σ 0)), (78, v173), (77, v170), (76, v167), (75, (σ 0)), (74, (σ 0)), (73, v165), (72, v162), (71, (σ 2)), (70, v105), (69, (σ 0)), (68, v150), (67, v147), (66, v143), (65, v139), (64, (σ 46)), (63, v134), (62, v131), (61, v128), (60, (σ 0)), (59, (σ 0)), (58, v116), (57, v113), (56, v105), (7, v105), (55, v105), (54, (σ 46)), (53, (σ 1)), (52, v98), (51, v95), (50, v92), (49, (σ 0)), (6, (σ 46)), (48, (σ 46)), (47, v83)]) h201) (fun v163 h164 => k (.panic v163) (updL σ [(72, v162), (71, (σ 2)), (70, v105), (69, (σ 0)), (68, v150), (67, v147), (66, v143), (65, v139), (64, (σ 46)), (63, v134), (62, v131), (61, v128), (60, (σ 0)), (59, (σ 0)), (58, v116), (57, v113), (56, v105), (7, v105), (55, v105), (54, (σ 46)), (53, (σ 1)), (52, v98), (51, v95), (50, v92), (49, (σ 0)), (6, (σ 46)), (48, (σ 46)), (47, v83)]) h164))) (fun v103 h104 => k (.panic v103) (updL σ [(54, (σ 46)), (53, (σ 1)), (52, v98), (51, v95), (50, v92), (49, (σ 0)), (6, (σ 46)), (48, (σ 46)), (47, v83)]) h104))
  (k (.exit 0) (updL σ [(47, v83)]) h)
noncomputable def g134_C1 (call : Call) (lf : Nat) (σ : St) (h : AHeap) (k : KS) : Option Ans :=
  cIf (σ 29)
  (k .ret σ h)
  (cBin EK .eql 3 (σ 2) (Go.Value.int Go.IntKind.i64 0) fun v33 =>
  cIf v33
  (dr (cNilCheck (σ 0) fun v36 =>
  rety v36 h) fun v34 h35 =>
  dr (cFieldAddr 5 v34 fun v39 =>
  rety v39 h35) fun v37 h38 =>
  dr (cLoad1 (.slc) v37 h38 fun v42 =>
  rety v42 h38) fun v40 h41 =>
  dr (cNilCheck (σ 0) fun v45 =>
  rety v45 h41) fun v43 h44 =>
  dr (cFieldAddr 4 v43 fun v48 =>
  rety v48 h44) fun v46 h47 =>
  dr (cLoad1 (.slc) v46 h47 fun v51 =>
  rety v51 h47) fun v49 h50 =>
  dr (cCall call 54 [v49] [(false, [.slc])] h50 (fun v54 h55 =>
  rety v54 h55) nopan) fun v52 h53 =>
  rk (cLoad1 (.slc) v37 h53 fun v56 =>
  rety v56 h53) v40 (
  rk (cFieldAddr 5 v34 fun v57 =>
  rety v57 h53) v37 (
  rk (cNilCheck (σ 0) fun v58 =>
  rety v58 h53) v34 (
  rk (rety (σ 0) h53) (σ 0) (
  rk (rety (σ 0) h53) (σ 0) (
  dr (cBuildS 52 1 [(0, 1, v52)] [(.slice none 0 0)] h53 fun v61 h62 =>
  rety v61 h62) fun v59 h60 =>
  rk (cLoad1 (.slc) v37 h60 fun v63 =>
  rety v63 h60) v40 (
  rk (cFieldAddr 5 v34 fun v64 =>
  rety v64 h60) v37 (
  rk (cNilCheck (σ 0) fun v65 =>
  rety v65 h60) v34 (
  rk (rety (σ 0) h60) (σ 0) (
  rk (rety (σ 0) h60) (σ 0) (
  dr (cAppend 52 1 24 v40 v59 h60 fun v68 h69 =>
  rety v68 h69) fun v66 h67 =>
  rk (rety (σ 0) h67) (σ 0) (
  dr (cNilCheck (σ 0) fun v72 =>
  rety v72 h67) fun v70 h71 =>
  dr (cFieldAddr 5 v70 fun v75 =>
  rety v75 h71) fun v73 h74 =>
  dr (cStore 1 v73 v66 h74 fun h78 =>
  rety undef h78) fun v76 h77 =>
  k .ret (updL σ [(45, v73), (44, v70), (43, v66), (42, v59), (41, v52), (40, v49), (39, v46), (38, v43), (37, (σ 0)), (36, v40), (35, v37), (34, v34), (33, (σ 0)), (32, (σ 0)), (31, v33), (30, (σ 2))]) h77))))))))))))
  (loopS (g134_L2 call lf) lf (updL σ [(46, (Go.Value.int Go.IntKind.i64 0)), (31, v33), (30, (σ 2))]) h (hBlk 0 k)))
noncomputable def g134 (call : Call) (lf : Nat) (σ : St) (h : AHeap) (k : KS) : Option Ans :=
  dr (cNilCheck (σ 0) fun v3 =>
  rety v3 h) fun v1 h2 =>
  dr (cFieldAddr 5 v1 fun v6 =>
  rety v6 h2) fun v4 h5 =>
  dr (cLoad1 (.slc) v4 h5 fun v9 =>
  rety v9 h5) fun v7 h8 =>
  dr (cLenS v7 fun v12 =>
  rety v12 h8) fun v10 h11 =>
  dr (cNilCheck (σ 0) fun v15 =>
  rety v15 h11) fun v13 h14 =>
  dr (cFieldAddr 6 v13 fun v18 =>
  rety v18 h14) fun v16 h17 =>
  dr (cLoad1 (.int .i64) v16 h17 fun v21 =>
  rety v21 h17) fun v19 h20 =>
  dr (cBin EK .geq 3 v10 v19 fun v24 =>
  rety v24 h20) fun v22 h23 =>
  gd v22
  (dr (cPick (Value.bool true) (Go.Value.bool true) undef fun v28 =>
  rety v28 h23) fun v26 h27 =>
  g134_C1 call lf (updL σ [(29, v26), (28, undef), (18, (Value.bool true)), (27, undef), (18, (Value.bool true)), (26, undef), (18, (Value.bool true)), (25, undef), (18, (Value.bool true)), (24, undef), (18, (Value.bool true)), (23, undef), (18, (Value.bool true)), (22, undef), (18, (Value.bool true)), (21, undef), (18, (Value.bool true)), (20, undef), (18, (Value.bool true)), (19, undef), (18, (Value.bool true)), (18, v22), (17, v22), (16, v19), (15, v16), (14, v13), (13, (σ 0)), (12, v10), (11, v7), (10, v4), (9, v1), (8, (σ 0))]) h27 k)
  (dr (cNilCheck (σ 0) fun v210 =>
  rety v210 h23) fun v208 h209 =>
  dr (cFieldAddr 3 v208 fun v213 =>
  rety v213 h209) fun v211 h212 =>
  dr (cLoad1 (.slc) v211 h212 fun v216 =>
  rety v216 h212) fun v214 h215 =>
  dr (cIdxS 1 v214 (σ 2) fun v219 =>
  rety v219 h215) fun v217 h218 =>
  dr (cLoad1 (.slc) v217 h218 fun v222 =>
  rety v222 h218) fun v220 h221 =>
  dr (cCall call 150 [(σ 1), v220] [(false, [.bool])] h221 (fun v225 h226 =>
  rety v225 h226) nopan) fun v223 h224 =>
  dr (cUn .not v223 fun v229 =>
  rety v229 h224) fun v227 h228 =>
  dr (cPick (Value.bool false) (Go.Value.bool true) v227 fun v232 =>
  rety v232 h228) fun v230 h231 =>
  g134_C1 call lf (updL σ [(29, v230), (28, v227), (18, (Value.bool false)), (27, v223), (18, (Value.bool false)), (26, v220), (18, (Value.bool false)), (25, v217), (18, (Value.bool false)), (24, (σ 2)), (18, (Value.bool false)), (23, v214), (18, (Value.bool false)), (22, v211), (18, (Value.bool false)), (21, v208), (18, (Value.bool false)), (20, (σ 0)), (18, (Value.bool false)), (19, (σ 1)), (18, (Value.bool false)), (18, v22), (17, v22), (16, v19), (15, v16), (14, v13), (13, (σ 0)), (12, v10), (11, v7), (10, v4), (9, v1), (8, (σ 0))]) h231 k)
  (fun c25 => dr (cPick (Value.tuple c25) (Go.Value.bool true) undef fun v235 =>
  rety v235 h23) fun v233 h234 =>
  g134_C1 call lf (updL σ [(29, v233), (28, undef), (18, (Value.tuple c25)), (27, undef), (18, (Value.tuple c25)), (26, undef), (18, (Value.tuple c25)), (25, undef), (18, (Value.tuple c25)), (24, undef), (18, (Value.tuple c25)), (23, undef), (18, (Value.tuple c25)), (22, undef), (18, (Value.tuple c25)), (21, undef), (18, (Value.tuple c25)), (20, undef), (18, (Value.tuple c25)), (19, undef), (18, (Value.tuple c25)), (18, v22), (17, v22), (16, v19), (15, v16), (14, v13), (13, (σ 0)), (12, v10), (11, v7), (10, v4), (9, v1), (8, (σ 0))]) h234 k)
theorem g134_eq (call : Call) (lf : Nat) (args : List Value) (h : AHeap) : evB EK call lf 134 args h = g134 call lf (st0 args) h (finS EK []) := by kernel_rfl
theorem c134 (call : Call) (args : List Value) (h : AHeap) (K kp : K2) : evCall EK call 134 args h K kp = cCall call 134 args [] h K kp := by kernel_rfl
-- "slices.IndexFunc[[]kerf/api.Edge,kerf/api.Edge]"
noncomputable def g135_L1 (call : Call) (lf : Nat) (σ : St) (h : AHeap) (k : KS) : Option Ans :=
  cBin EK .lss 3 (σ 8) (σ 7) fun v12 =>
  cIf v12
  (cIdxS 2 (σ 0) (σ 8) fun v25 =>
  cLoadA [.slc, .int .i64] v25 h fun v28 =>
  cCallV EK call (σ 1) [v28] h (fun v31 h32 =>
  cIf v31
  (k .ret (updL σ [(4, (σ 8)), (17, (σ 8)), (16, v31), (15, v28), (14, v25), (13, (σ 8)), (12, (σ 0)), (11, (σ 1)), (5, (σ 8)), (10, (σ 8)), (9, v12)]) h32)
  (cBin EK .add 3 (σ 8) (Go.Value.int Go.IntKind.i64 1) fun v39 =>
  k .normal (updL σ [(8, v39), (18, v39), (16, v31), (15, v28), (14, v25), (13, (σ 8)), (12, (σ 0)), (11, (σ 1)), (5, (σ 8)), (10, (σ 8)), (9, v12)]) h32)) (fun v29 h30 => k (.panic v29) (updL σ [(15, v28), (14, v25), (13, (σ 8)), (12, (σ 0)), (11, (σ 1)), (5, (σ 8)), (10, (σ 8)), (9, v12)]) h30))
  (k (.exit 0) (updL σ [(9, v12)]) h)
noncomputable def g135_C2 (call : Call) (lf : Nat) (σ : St) (h : AHeap) (k : KS) : Option Ans :=
  k .ret (updL σ [(4, (Go.Value.int Go.IntKind.i64 (-1)))]) h
noncomputable def g135 (call : Call) (lf : Nat) (σ : St) (h : AHeap) (k : KS) : Option Ans :=
  cLenS (σ 0) fun v7 =>
  loopS (g135_L1 call lf) lf (updL σ [(8, (Go.Value.int Go.IntKind.i64 0)), (7, v7), (6, (σ 0)), (4, (Go.Value.int Go.IntKind.i64 0))]) h (hBlk 0 (hSeq (fun σ h => g135_C2 call lf σ h k) k))
theorem g135_eq (call : Call) (lf : Nat) (args : List Value) (h : AHeap) : evB EK call lf 135 args h = g135 call lf (st0 args) h (finS EK [.tmp 4]) := by kernel_rfl
theorem c135 (call : Call) (args : List Value) (h : AHeap) (K kp : K2) : evCall EK call 135 args h K kp = cCall call 135 args [(false, [.int .i64])] h K kp := by kernel_rfl
-- "slices.IndexFunc[[]int,int]"
noncomputable def g136_L1 (call : Call) (lf : Nat) (σ : St) (h : AHeap) (k : KS) : Option Ans :=
  cBin EK .lss 3 (σ 8) (σ 7) fun v12 =>
  cIf v12
  (cIdxS 1 (σ 0) (σ 8) fun v25 =>
  cLoad1 (.int .i64) v25 h fun v28 =>
  cCallV EK call (σ 1) [v28] h (fun v31 h32 =>
  cIf v31
  (k .ret (updL σ [(4, (σ 8)), (17, (σ 8)), (16, v31), (15, v28), (14, v25), (13, (σ 8)), (12, (σ 0)), (11, (σ 1)), (5, (σ 8)), (10, (σ 8)), (9, v12)]) h32)
  (cBin EK .add 3 (σ 8) (Go.Value.int Go.IntKind.i64 1) fun v39 =>
  k .normal (updL σ [(8, v39), (18, v39), (16, v31), (15, v28), (14, v25), (13, (σ 8)), (12, (σ 0)), (11, (σ 1)), (5, (σ 8)), (10, (σ 8)), (9, v12)]) h32)) (fun v29 h30 => k (.panic v29) (updL σ [(15, v28), (14, v25), (13, (σ 8)), (12, (σ 0)), (11, (σ 1)), (5, (σ 8)), (10, (σ 8)), (9, v12)]) h30))
  (k (.exit 0) (updL σ [(9, v12)]) h)
noncomputable def g136_C2 (call : Call) (lf : Nat) (σ : St) (h : AHeap) (k : KS) : Option Ans :=
  k .ret (updL σ [(4, (Go.Value.int Go.IntKind.i64 (-1)))]) h
noncomputable def g136 (call : Call) (lf : Nat) (σ : St) (h : AHeap) (k : KS) : Option Ans :=
  cLenS (σ 0) fun v7 =>
  loopS (g136_L1 call lf) lf (updL σ [(8, (Go.Value.int Go.IntKind.i64 0)), (7, v7), (6, (σ 0)), (4, (Go.Value.int Go.IntKind.i64 0))]) h (hBlk 0 (hSeq (fun σ h => g136_C2 call lf σ h k) k))
theorem g136_eq (call : Call) (lf : Nat) (args : List Value) (h : AHeap) : evB EK call lf 136 args h = g136 call lf (st0 args) h (finS EK [.tmp 4]) := by kernel_rfl
theorem c136 (call : Call) (args : List Value) (h : AHeap) (K kp : K2) : evCall EK call 136 args h K kp = cCall call 136 args [(false, [.int .i64])] h K kp := by kernel_rfl
-- "cmp.Less[int]"
noncomputable def g137_C1 (call : Call) (lf : Nat) (σ : St) (h : AHeap) (k : KS) : Option Ans :=
  k .ret σ h
noncomputable def g137 (call : Call) (lf : Nat) (σ : St) (h : AHeap) (k : KS) : Option Ans :=
  cCall call 151 [(σ 0)] [(false, [.bool])] h (fun v7 h8 =>
  gd v7
  (cCall call 151 [(σ 1)] [(false, [.bool])] h8 (fun v16 h17 =>
  cUn .not v16 fun v20 =>
  cPick (Value.bool true) v20 (Go.Value.bool false) fun v23 =>
  gd v23
  (cPick (Value.bool true) (Go.Value.bool true) undef fun v29 =>
  g137_C1 call lf (updL σ [(4, v29), (16, v29), (15, undef), (12, (Value.bool true)), (14, undef), (12, (Value.bool true)), (13, undef), (12, (Value.bool true)), (12, v23), (11, v23), (10, v20), (7, (Value.bool true)), (9, v16), (7, (Value.bool true)), (8, (σ 1)), (7, (Value.bool true)), (7, v7), (6, v7), (5, (σ 0)), (4, (Go.Value.bool false))]) h17 k)
  (cBin EK .lss 3 (σ 0) (σ 1) fun v38 =>
  cPick (Value.bool false) (Go.Value.bool true) v38 fun v41 =>
  g137_C1 call lf (updL σ [(4, v41), (16, v41), (15, v38), (12, (Value.bool false)), (14, (σ 1)), (12, (Value.bool false)), (13, (σ 0)), (12, (Value.bool false)), (12, v23), (11, v23), (10, v20), (7, (Value.bool true)), (9, v16), (7, (Value.bool true)), (8, (σ 1)), (7, (Value.bool true)), (7, v7), (6, v7), (5, (σ 0)), (4, (Go.Value.bool false))]) h17 k)
  (fun c26 => cPick (Value.tuple c26) (Go.Value.bool true) undef fun v46 =>
  g137_C1 call lf (updL σ [(4, v46), (16, v46), (15, undef), (12, (Value.tuple c26)), (14, undef), (12, (Value.tuple c26)), (13, undef), (12, (Value.tuple c26)), (12, v23), (11, v23), (10, v20), (7, (Value.bool true)), (9, v16), (7, (Value.bool true)), (8, (σ 1)), (7, (Value.bool true)), (7, v7), (6, v7), (5, (σ 0)), (4, (Go.Value.bool false))]) h17 k)) (fun v14 h15 => k (.panic v14) (updL σ [(7, (Value.bool true)), (8, (σ 1)), (7, (Value.bool true)), (7, v7), (6, v7), (5, (σ 0)), (4, (Go.Value.bool false))]) h15))
  (cPick (Value.bool false) undef (Go.Value.bool false) fun v51 =>
  gd v51
  (cPick (Value.bool true) (Go.Value.bool true) undef fun v57 =>
  g137_C1 call lf (updL σ [(4, v57), (16, v57), (15, undef), (12, (Value.bool true)), (14, undef), (12, (Value.bool true)), (13, undef), (12, (Value.bool true)), (12, v51), (11, v51), (10, undef), (7, (Value.bool false)), (9, undef), (7, (Value.bool false)), (8, undef), (7, (Value.bool false)), (7, v7), (6, v7), (5, (σ 0)), (4, (Go.Value.bool false))]) h8 k)
  (cBin EK .lss 3 (σ 0) (σ 1) fun v66 =>
  cPick (Value.bool false) (Go.Value.bool true) v66 fun v69 =>
  g137_C1 call lf (updL σ [(4, v69), (16, v69), (15, v66), (12, (Value.bool false)), (14, (σ 1)), (12, (Value.bool false)), (13, (σ 0)), (12, (Value.bool false)), (12, v51), (11, v51), (10, undef), (7, (Value.bool false)), (9, undef), (7, (Value.bool false)), (8, undef), (7, (Value.bool false)), (7, v7), (6, v7), (5, (σ 0)), (4, (Go.Value.bool false))]) h8 k)
  (fun c54 => cPick (Value.tuple c54) (Go.Value.bool true) undef fun v74 =>
  g137_C1 call lf (updL σ [(4, v74), (16, v74), (15, undef), (12, (Value.tuple c54)), (14, undef), (12, (Value.tuple c54)), (13, undef), (12, (Value.tuple c54)), (12, v51), (11, v51), (10, undef), (7, (Value.bool false)), (9, undef), (7, (Value.bool false)), (8, undef), (7, (Value.bool false)), (7, v7), (6, v7), (5, (σ 0)), (4, (Go.Value.bool false))]) h8 k))
  (fun c11 => cPick (Value.tuple c11) undef (Go.Value.bool false) fun v79 =>
  gd v79
  (cPick (Value.bool true) (Go.Value.bool true) undef fun v85 =>
  g137_C1 call lf (updL σ [(4, v85), (16, v85), (15, undef), (12, (Value.bool true)), (14, undef), (12, (Value.bool true)), (13, undef), (12, (Value.bool true)), (12, v79), (11, v79), (10, undef), (7, (Value.tuple c11)), (9, undef), (7, (Value.tuple c11)), (8, undef), (7, (Value.tuple c11)), (7, v7), (6, v7), (5, (σ 0)), (4, (Go.Value.bool false))]) h8 k)
  (cBin EK .lss 3 (σ 0) (σ 1) fun v94 =>
  cPick (Value.bool false) (Go.Value.bool true) v94 fun v97 =>
  g137_C1 call lf (updL σ [(4, v97), (16, v97), (15, v94), (12, (Value.bool false)), (14, (σ 1)), (12, (Value.bool false)), (13, (σ 0)), (12, (Value.bool false)), (12, v79), (11, v79), (10, undef), (7, (Value.tuple c11)), (9, undef), (7, (Value.tuple c11)), (8, undef), (7, (Value.tuple c11)), (7, v7), (6, v7), (5, (σ 0)), (4, (Go.Value.bool false))]) h8 k)
  (fun c82 => cPick (Value.tuple c82) (Go.Value.bool true) undef fun v102 =>
  g137_C1 call lf (updL σ [(4, v102), (16, v102), (15, undef), (12, (Value.tuple c82)), (14, undef), (12, (Value.tuple c82)), (13, undef), (12, (Value.tuple c82)), (12, v79), (11, v79), (10, undef), (7, (Value.tuple c11)), (9, undef), (7, (Value.tuple c11)), (8, undef), (7, (Value.tuple c11)), (7, v7), (6, v7), (5, (σ 0)), (4, (Go.Value.bool false))]) h8 k))) (fun v5 h6 => k (.panic v5) (updL σ [(5, (σ 0)), (4, (Go.Value.bool false))]) h6)
theorem g137_eq (call : Call) (lf : Nat) (args : List Value) (h : AHeap) : evB EK call lf 137 args h = g137 call lf (st0 args) h (finS EK [.tmp 4]) := by kernel_rfl
theorem c137 (call : Call) (args : List Value) (h : AHeap) (K kp : K2) : evCall EK call 137 args h K kp = cCall call 137 args [(false, [.bool])] h K kp := by kernel_rfl
-- "slices.isNaN[int]"
noncomputable def g138 (call : Call) (lf : Nat) (σ : St) (h : AHeap) (k : KS) : Option Ans :=
  cBin EK .neq 3 (σ 0) (σ 0) fun v9 =>
  k .ret (updL σ [(2, v9), (5, v9), (4, (σ 0)), (3, (σ 0)), (2, (Go.Value.bool false))]) h
theorem g138_eq (call : Call) (lf : Nat) (args : List Value) (h : AHeap) : evB EK call lf 138 args h = g138 call lf (st0 args) h (finS EK [.tmp 2]) := by kernel_rfl
theorem c138 (call : Call) (args : List Value) (h : AHeap) (K kp : K2) : evCall EK call 138 args h K kp = cCall call 138 args [(false, [.bool])] h K kp := by kernel_rfl
-- "kerf/nfa.meet"
noncomputable def g150 (call : Call) (lf : Nat) (σ : St) (h : AHeap) (k : KS) : Option Ans :=
  cNew (σ 1).cells.toList 52 h fun v3 h4 =>
  cCall call 108 [(σ 0), (Value.func (.func 158) #[] #[v3])] [(false, [.bool])] h4 (fun v13 h14 =>
  k .ret (updL σ [(4, v13), (7, v13), (6, (Value.func (.func 158) #[] #[v3])), (5, (σ 0)), (4, (Go.Value.bool false)), (3, v3)]) h14) (fun v11 h12 => k (.panic v11) (updL σ [(6, (Value.func (.func 158) #[] #[v3])), (5, (σ 0)), (4, (Go.Value.bool false)), (3, v3)]) h12)
theorem g150_eq (call : Call) (lf : Nat) (args : List Value) (h : AHeap) : evB EK call lf 150 args h = g150 call lf (st0 args) h (finS EK [.tmp 4]) := by kernel_rfl
theorem c150 (call : Call) (args : List Value) (h : AHeap) (K kp : K2) : evCall EK call 150 args h K kp = cCall call 150 args [(false, [.bool])] h K kp := by kernel_rfl
-- "cmp.isNaN[int]"
noncomputable def g151 (call : Call) (lf : Nat) (σ : St) (h : AHeap) (k : KS) : Option Ans :=
  cBin EK .neq 3 (σ 0) (σ 0) fun v9 =>
  k .ret (updL σ [(2, v9), (5, v9), (4, (σ 0)), (3, (σ 0)), (2, (Go.Value.bool false))]) h
theorem g151_eq (call : Call) (lf : Nat) (args : List Value) (h : AHeap) : evB EK call lf 151 args h = g151 call lf (st0 args) h (finS EK [.tmp 2]) := by kernel_rfl
theorem c151 (call : Call) (args : List Value) (h : AHeap) (K kp : K2) : evCall EK call 151 args h K kp = cCall call 151 args [(false, [.bool])] h K kp := by kernel_rfl
-- "kerf/nfa.meet$1"
noncomputable def g158 (call : Call) (lf : Nat) (σ : St) (h : AHeap) (k : KS) : Option Ans :=
  cLoad1 (.slc) (σ 1) h fun v5 =>
  cCall call 113 [v5, (σ 0)] [(false, [.int .i64]), (false, [.bool])] h (fun v10 h11 =>
  cExtract v10 0 fun v16 =>
  cExtract v10 1 fun v19 =>
  k .ret (updL σ [(3, v19), (12, v19), (5, v19), (4, v16), (11, v19), (10, v16), (6, v10), (9, v10), (8, (σ 0)), (7, v5), (3, (Go.Value.bool false))]) h11) (fun v8 h9 => k (.panic v8) (updL σ [(8, (σ 0)), (7, v5), (3, (Go.Value.bool false))]) h9)
theorem g158_eq (call : Call) (lf : Nat) (args : List Value) (h : AHeap) : evB EK call lf 158 args h = g158 call lf (st0 args) h (finS EK [.tmp 3]) := by kernel_rfl
theorem c158 (call : Call) (args : List Value) (h : AHeap) (K kp : K2) : evCall EK call 158 args h K kp = cCall call 158 args [(false, [.bool])] h K kp := by kernel_rfl
end Go.Amb
