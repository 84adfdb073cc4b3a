/- Part of the proof by the abstract machine: no claim of its own. -/
import Derived.Test.YtnfncnchbogncaaE4
import Derived.KernelRfl
set_option linter.unusedSimpArgs false
set_option linter.unusedVariables false
set_option linter.unnecessarySimpa false
set_option linter.unusedSectionVars false
set_option linter.unusedVariables false
set_option maxRecDepth 100000
namespace Go.Amb
open Go.Proofs
-- "kerf/kerflaw06.NfaKleene"
noncomputable def g5_C2 (call : Call) (lf : Nat) (σ : St) (h : AHeap) (k : KS) : Option Ans :=
  k .ret σ h
noncomputable def g5_C1 (call : Call) (lf : Nat) (σ : St) (h : AHeap) (k : KS) : Option Ans :=
  cIf (σ 22)
  (cCall call 33 [] [(false, [.bool])] h (fun v62 h63 =>
  k .ret (updL σ [(4, v62), (23, v62)]) h63) (fun v60 h61 => k (.panic v60) σ h61))
  (dr (cLoadA [.slc, .int .i64, .int .i64] (σ 5) h fun v68 =>
  rety v68 h) fun v66 h67 =>
  dr (cLoadA [.int .i64, .slc, .slc] (σ 2) h67 fun v71 =>
  rety v71 h67) fun v69 h70 =>
  dr (cCall call 35 [v66, (σ 1)] [(false, [.bool])] h70 (fun v74 h75 =>
  rety v74 h75) nopan) fun v72 h73 =>
  rk (rety (σ 1) h73) (σ 1) (
  rk (cLoadA [.int .i64, .slc, .slc] (σ 2) h73 fun v76 =>
  rety v76 h73) v69 (
  dr (cCall call 36 [v69, (σ 1)] [(false, [.bool])] h73 (fun v79 h80 =>
  rety v79 h80) nopan) fun v77 h78 =>
  dr (cBin EK .eql 4 v72 v77 fun v83 =>
  rety v83 h78) fun v81 h82 =>
  gd v81
  (dr (cLoadA [.slc, .int .i64, .int .i64] (σ 5) h82 fun v87 =>
  rety v87 h82) fun v85 h86 =>
  dr (cLoadA [.int .i64, .slc, .slc] (σ 2) h86 fun v90 =>
  rety v90 h86) fun v88 h89 =>
  dr (cCall call 38 [v85, (σ 1), (Go.Value.int Go.IntKind.i64 0)] [(false, [.slc])] h89 (fun v93 h94 =>
  rety v93 h94) nopan) fun v91 h92 =>
  rk (rety (σ 1) h92) (σ 1) (
  rk (cLoadA [.int .i64, .slc, .slc] (σ 2) h92 fun v95 =>
  rety v95 h92) v88 (
  dr (cCall call 39 [v88, (σ 1)] [(false, [.slc])] h92 (fun v98 h99 =>
  rety v98 h99) nopan) fun v96 h97 =>
  dr (cCall call 37 [v91, v96] [(false, [.bool])] h97 (fun v102 h103 =>
  rety v102 h103) nopan) fun v100 h101 =>
  dr (cPick (Value.bool true) v100 (Go.Value.bool false) fun v106 =>
  rety v106 h101) fun v104 h105 =>
  gd v104
  (dr (cCall call 33 [] [(false, [.bool])] h105 (fun v110 h111 =>
  rety v110 h111) nopan) fun v108 h109 =>
  dr (cPick (Value.bool true) v108 (Go.Value.bool false) fun v114 =>
  rety v114 h109) fun v112 h113 =>
  g5_C2 call lf (updL σ [(4, v112), (42, v112), (41, v108), (40, (Value.bool true)), (40, v104), (39, v104), (38, v100), (31, (Value.bool true)), (37, v96), (31, (Value.bool true)), (34, v91), (31, (Value.bool true)), (36, (σ 1)), (31, (Value.bool true)), (35, v88), (31, (Value.bool true)), (33, (σ 1)), (31, (Value.bool true)), (32, v85), (31, (Value.bool true)), (31, v81), (30, v81), (29, v77), (26, v72), (28, (σ 1)), (27, v69), (25, (σ 1)), (24, v66)]) h113 k)
  (dr (cPick (Value.bool false) undef (Go.Value.bool false) fun v117 =>
  rety v117 h105) fun v115 h116 =>
  g5_C2 call lf (updL σ [(4, v115), (42, v115), (41, undef), (40, (Value.bool false)), (40, v104), (39, v104), (38, v100), (31, (Value.bool true)), (37, v96), (31, (Value.bool true)), (34, v91), (31, (Value.bool true)), (36, (σ 1)), (31, (Value.bool true)), (35, v88), (31, (Value.bool true)), (33, (σ 1)), (31, (Value.bool true)), (32, v85), (31, (Value.bool true)), (31, v81), (30, v81), (29, v77), (26, v72), (28, (σ 1)), (27, v69), (25, (σ 1)), (24, v66)]) h116 k)
  (fun c107 => dr (cPick (Value.tuple c107) undef (Go.Value.bool false) fun v120 =>
  rety v120 h105) fun v118 h119 =>
  g5_C2 call lf (updL σ [(4, v118), (42, v118), (41, undef), (40, (Value.tuple c107)), (40, v104), (39, v104), (38, v100), (31, (Value.bool true)), (37, v96), (31, (Value.bool true)), (34, v91), (31, (Value.bool true)), (36, (σ 1)), (31, (Value.bool true)), (35, v88), (31, (Value.bool true)), (33, (σ 1)), (31, (Value.bool true)), (32, v85), (31, (Value.bool true)), (31, v81), (30, v81), (29, v77), (26, v72), (28, (σ 1)), (27, v69), (25, (σ 1)), (24, v66)]) h119 k))))
  (dr (cPick (Value.bool false) undef (Go.Value.bool false) fun v123 =>
  rety v123 h82) fun v121 h122 =>
  gd v121
  (dr (cCall call 33 [] [(false, [.bool])] h122 (fun v127 h128 =>
  rety v127 h128) nopan) fun v125 h126 =>
  dr (cPick (Value.bool true) v125 (Go.Value.bool false) fun v131 =>
  rety v131 h126) fun v129 h130 =>
  g5_C2 call lf (updL σ [(4, v129), (42, v129), (41, v125), (40, (Value.bool true)), (40, v121), (39, v121), (38, undef), (31, (Value.bool false)), (37, undef), (31, (Value.bool false)), (34, undef), (31, (Value.bool false)), (36, undef), (31, (Value.bool false)), (35, undef), (31, (Value.bool false)), (33, undef), (31, (Value.bool false)), (32, undef), (31, (Value.bool false)), (31, v81), (30, v81), (29, v77), (26, v72), (28, (σ 1)), (27, v69), (25, (σ 1)), (24, v66)]) h130 k)
  (dr (cPick (Value.bool false) undef (Go.Value.bool false) fun v134 =>
  rety v134 h122) fun v132 h133 =>
  g5_C2 call lf (updL σ [(4, v132), (42, v132), (41, undef), (40, (Value.bool false)), (40, v121), (39, v121), (38, undef), (31, (Value.bool false)), (37, undef), (31, (Value.bool false)), (34, undef), (31, (Value.bool false)), (36, undef), (31, (Value.bool false)), (35, undef), (31, (Value.bool false)), (33, undef), (31, (Value.bool false)), (32, undef), (31, (Value.bool false)), (31, v81), (30, v81), (29, v77), (26, v72), (28, (σ 1)), (27, v69), (25, (σ 1)), (24, v66)]) h133 k)
  (fun c124 => dr (cPick (Value.tuple c124) undef (Go.Value.bool false) fun v137 =>
  rety v137 h122) fun v135 h136 =>
  g5_C2 call lf (updL σ [(4, v135), (42, v135), (41, undef), (40, (Value.tuple c124)), (40, v121), (39, v121), (38, undef), (31, (Value.bool false)), (37, undef), (31, (Value.bool false)), (34, undef), (31, (Value.bool false)), (36, undef), (31, (Value.bool false)), (35, undef), (31, (Value.bool false)), (33, undef), (31, (Value.bool false)), (32, undef), (31, (Value.bool false)), (31, v81), (30, v81), (29, v77), (26, v72), (28, (σ 1)), (27, v69), (25, (σ 1)), (24, v66)]) h136 k))
  (fun c84 => dr (cPick (Value.tuple c84) undef (Go.Value.bool false) fun v140 =>
  rety v140 h82) fun v138 h139 =>
  gd v138
  (dr (cCall call 33 [] [(false, [.bool])] h139 (fun v144 h145 =>
  rety v144 h145) nopan) fun v142 h143 =>
  dr (cPick (Value.bool true) v142 (Go.Value.bool false) fun v148 =>
  rety v148 h143) fun v146 h147 =>
  g5_C2 call lf (updL σ [(4, v146), (42, v146), (41, v142), (40, (Value.bool true)), (40, v138), (39, v138), (38, undef), (31, (Value.tuple c84)), (37, undef), (31, (Value.tuple c84)), (34, undef), (31, (Value.tuple c84)), (36, undef), (31, (Value.tuple c84)), (35, undef), (31, (Value.tuple c84)), (33, undef), (31, (Value.tuple c84)), (32, undef), (31, (Value.tuple c84)), (31, v81), (30, v81), (29, v77), (26, v72), (28, (σ 1)), (27, v69), (25, (σ 1)), (24, v66)]) h147 k)
  (dr (cPick (Value.bool false) undef (Go.Value.bool false) fun v151 =>
  rety v151 h139) fun v149 h150 =>
  g5_C2 call lf (updL σ [(4, v149), (42, v149), (41, undef), (40, (Value.bool false)), (40, v138), (39, v138), (38, undef), (31, (Value.tuple c84)), (37, undef), (31, (Value.tuple c84)), (34, undef), (31, (Value.tuple c84)), (36, undef), (31, (Value.tuple c84)), (35, undef), (31, (Value.tuple c84)), (33, undef), (31, (Value.tuple c84)), (32, undef), (31, (Value.tuple c84)), (31, v81), (30, v81), (29, v77), (26, v72), (28, (σ 1)), (27, v69), (25, (σ 1)), (24, v66)]) h150 k)
  (fun c141 => dr (cPick (Value.tuple c141) undef (Go.Value.bool false) fun v154 =>
  rety v154 h139) fun v152 h153 =>
  g5_C2 call lf (updL σ [(4, v152), (42, v152), (41, undef), (40, (Value.tuple c141)), (40, v138), (39, v138), (38, undef), (31, (Value.tuple c84)), (37, undef), (31, (Value.tuple c84)), (34, undef), (31, (Value.tuple c84)), (36, undef), (31, (Value.tuple c84)), (35, undef), (31, (Value.tuple c84)), (33, undef), (31, (Value.tuple c84)), (32, undef), (31, (Value.tuple c84)), (31, v81), (30, v81), (29, v77), (26, v72), (28, (σ 1)), (27, v69), (25, (σ 1)), (24, v66)]) h153 k)))))
noncomputable def g5 (call : Call) (lf : Nat) (σ : St) (h : AHeap) (k : KS) : Option Ans :=
  cNew (σ 0).cells.toList 64 h fun v3 h4 =>
  cLenS (σ 1) fun v11 =>
  cBin EK .gtr 3 v11 (Go.Value.int Go.IntKind.i64 60) fun v14 =>
  cIf v14
  (cCall call 33 [] [(false, [.bool])] h4 (fun v17 h18 =>
  k .ret (updL σ [(4, v17), (10, v17), (9, v14), (8, v11), (7, (σ 1)), (4, (Go.Value.bool false)), (2, v3)]) h18) (fun v15 h16 => k (.panic v15) (updL σ [(9, v14), (8, v11), (7, (σ 1)), (4, (Go.Value.bool false)), (2, v3)]) h16))
  (cLoadA [.int .i64, .slc, .slc] v3 h4 fun v23 =>
  cCall call 28 [v23] [(true, [.slc, .int .i64, .int .i64]), (false, [.int .i64])] h4 (fun v26 h27 =>
  cExtract v26 0 fun v32 =>
  cExtract v26 1 fun v35 =>
  cNew [(.slice none 0 0), (.int .i64 (0)), (.int .i64 (0))] 67 h27 fun v38 h39 =>
  cStore 3 v38 v32 h39 fun h42 =>
  cCall call 30 [v35] [(false, [.int .i64])] h42 (fun v49 h50 =>
  cBin EK .neq 3 v49 (Go.Value.int Go.IntKind.i64 0) fun v53 =>
  gd v53
  (cPick (Value.bool true) (Go.Value.bool true) undef fun v59 =>
  g5_C1 call lf (updL σ [(22, v59), (21, undef), (19, (Value.bool true)), (20, undef), (19, (Value.bool true)), (19, v53), (18, v53), (17, v49), (16, v35), (6, v35), (5, v38), (15, v35), (14, v32), (11, v26), (13, v26), (12, v23), (9, v14), (8, v11), (7, (σ 1)), (4, (Go.Value.bool false)), (2, v3)]) h50 k)
  (cLoadA [.slc, .int .i64, .int .i64] v38 h50 fun v157 =>
  cCall call 34 [v157] [(false, [.bool])] h50 (fun v160 h161 =>
  cPick (Value.bool false) (Go.Value.bool true) v160 fun v164 =>
  g5_C1 call lf (updL σ [(22, v164), (21, v160), (19, (Value.bool false)), (20, v157), (19, (Value.bool false)), (19, v53), (18, v53), (17, v49), (16, v35), (6, v35), (5, v38), (15, v35), (14, v32), (11, v26), (13, v26), (12, v23), (9, v14), (8, v11), (7, (σ 1)), (4, (Go.Value.bool false)), (2, v3)]) h161 k) (fun v158 h159 => k (.panic v158) (updL σ [(19, (Value.bool false)), (20, v157), (19, (Value.bool false)), (19, v53), (18, v53), (17, v49), (16, v35), (6, v35), (5, v38), (15, v35), (14, v32), (11, v26), (13, v26), (12, v23), (9, v14), (8, v11), (7, (σ 1)), (4, (Go.Value.bool false)), (2, v3)]) h159))
  (fun c56 => cPick (Value.tuple c56) (Go.Value.bool true) undef fun v167 =>
  g5_C1 call lf (updL σ [(22, v167), (21, undef), (19, (Value.tuple c56)), (20, undef), (19, (Value.tuple c56)), (19, v53), (18, v53), (17, v49), (16, v35), (6, v35), (5, v38), (15, v35), (14, v32), (11, v26), (13, v26), (12, v23), (9, v14), (8, v11), (7, (σ 1)), (4, (Go.Value.bool false)), (2, v3)]) h50 k)) (fun v47 h48 => k (.panic v47) (updL σ [(16, v35), (6, v35), (5, v38), (15, v35), (14, v32), (11, v26), (13, v26), (12, v23), (9, v14), (8, v11), (7, (σ 1)), (4, (Go.Value.bool false)), (2, v3)]) h48)) (fun v24 h25 => k (.panic v24) (updL σ [(12, v23), (9, v14), (8, v11), (7, (σ 1)), (4, (Go.Value.bool false)), (2, v3)]) h25))
theorem g5_eq (call : Call) (lf : Nat) (args : List Value) (h : AHeap) : evB EK call lf 5 args h = g5 call lf (st0 args) h (finS EK [.tmp 4]) := by kernel_rfl
theorem cl5 (call : Call) (args : List Value) (h : AHeap) (K kp : K2) : evCall EK call 5 args h K kp = cCall call 5 args [(false, [.bool])] h K kp := by kernel_rfl
-- "kerf/kerflaw06.wide"
noncomputable def g34_C3 (call : Call) (lf : Nat) (σ : St) (h : AHeap) (k : KS) : Option Ans :=
  cIf (σ 46)
  (cFieldAddr 0 (σ 1) fun v123 =>
  cLoad1 (.slc) v123 h fun v126 =>
  cIdxS 2 v126 (σ 4) fun v131 =>
  cFieldAddr 0 v131 fun v134 =>
  cLoad1 (.slc) v134 h fun v137 =>
  cIdxS 2 v137 (σ 5) fun v142 =>
  cFieldAddr 0 v142 fun v145 =>
  cLoad1 (.slc) v145 h fun v148 =>
  cLenS v148 fun v151 =>
  cBin EK .add 3 (σ 3) v151 fun v154 =>
  cBin EK .add 3 (σ 5) (Go.Value.int Go.IntKind.i64 1) fun v161 =>
  k .normal (updL σ [(5, v161), (48, v161), (47, (σ 5)), (3, v154), (61, v154), (60, v151), (59, v148), (58, v145), (57, v142), (56, (σ 5)), (55, v137), (54, v134), (53, v131), (52, (σ 4)), (51, v126), (50, v123), (49, (σ 3))]) h)
  (k (.exit 2) σ h)
noncomputable def g34_L2 (call : Call) (lf : Nat) (σ : St) (h : AHeap) (k : KS) : Option Ans :=
  cFieldAddr 0 (σ 1) fun v87 =>
  cLoad1 (.slc) v87 h fun v90 =>
  cIdxS 2 v90 (σ 4) fun v95 =>
  cFieldAddr 0 v95 fun v98 =>
  cLoad1 (.slc) v98 h fun v101 =>
  cLenS v101 fun v104 =>
  cBin EK .lss 3 (σ 5) v104 fun v107 =>
  gd v107
  (cBin EK .leq 3 (σ 5) (Go.Value.int Go.IntKind.i64 2500) fun v115 =>
  cPick (Value.bool true) v115 (Go.Value.bool false) fun v118 =>
  g34_C3 call lf (updL σ [(46, v118), (45, v115), (43, (Value.bool true)), (44, (σ 5)), (43, (Value.bool true)), (43, v107), (42, v107), (41, v104), (40, v101), (39, v98), (38, v95), (37, (σ 4)), (36, v90), (35, v87), (34, (σ 5))]) h k)
  (cPick (Value.bool false) undef (Go.Value.bool false) fun v166 =>
  g34_C3 call lf (updL σ [(46, v166), (45, undef), (43, (Value.bool false)), (44, undef), (43, (Value.bool false)), (43, v107), (42, v107), (41, v104), (40, v101), (39, v98), (38, v95), (37, (σ 4)), (36, v90), (35, v87), (34, (σ 5))]) h k)
  (fun c110 => cPick (Value.tuple c110) undef (Go.Value.bool false) fun v169 =>
  g34_C3 call lf (updL σ [(46, v169), (45, undef), (43, (Value.tuple c110)), (44, undef), (43, (Value.tuple c110)), (43, v107), (42, v107), (41, v104), (40, v101), (39, v98), (38, v95), (37, (σ 4)), (36, v90), (35, v87), (34, (σ 5))]) h k)
noncomputable def g34_C4 (call : Call) (lf : Nat) (σ : St) (h : AHeap) (k : KS) : Option Ans :=
  cBin EK .add 3 (σ 4) (Go.Value.int Go.IntKind.i64 1) fun v174 =>
  k .normal (updL σ [(4, v174), (16, v174), (15, (σ 4))]) h
noncomputable def g34_L1 (call : Call) (lf : Nat) (σ : St) (h : AHeap) (k : KS) : Option Ans :=
  cFieldAddr 0 (σ 1) fun v29 =>
  cLoad1 (.slc) v29 h fun v32 =>
  cLenS v32 fun v35 =>
  cBin EK .lss 3 (σ 4) v35 fun v38 =>
  cIf v38
  (dr (cFieldAddr 0 (σ 1) fun v41 =>
  rety v41 h) fun v39 h40 =>
  dr (cLoad1 (.slc) v39 h40 fun v44 =>
  rety v44 h40) fun v42 h43 =>
  dr (cIdxS 2 v42 (σ 4) fun v47 =>
  rety v47 h43) fun v45 h46 =>
  dr (cFieldAddr 1 v45 fun v50 =>
  rety v50 h46) fun v48 h49 =>
  dr (cLoad1 (.slc) v48 h49 fun v53 =>
  rety v53 h49) fun v51 h52 =>
  dr (cLenS v51 fun v56 =>
  rety v56 h52) fun v54 h55 =>
  dr (cBin EK .add 3 (σ 3) v54 fun v59 =>
  rety v59 h55) fun v57 h58 =>
  dr (cFieldAddr 0 (σ 1) fun v62 =>
  rety v62 h58) fun v60 h61 =>
  dr (cLoad1 (.slc) v60 h61 fun v65 =>
  rety v65 h61) fun v63 h64 =>
  dr (cIdxS 2 v63 (σ 4) fun v68 =>
  rety v68 h64) fun v66 h67 =>
  dr (cFieldAddr 0 v66 fun v71 =>
  rety v71 h67) fun v69 h70 =>
  dr (cLoad1 (.slc) v69 h70 fun v74 =>
  rety v74 h70) fun v72 h73 =>
  dr (cLenS v72 fun v77 =>
  rety v77 h73) fun v75 h76 =>
  dr (cBin EK .add 3 v57 v75 fun v80 =>
  rety v80 h76) fun v78 h79 =>
  loopS (g34_L2 call lf) lf (updL σ [(5, (Go.Value.int Go.IntKind.i64 0)), (3, v78), (33, v78), (32, v75), (31, v72), (30, v69), (29, v66), (28, (σ 4)), (27, v63), (26, v60), (25, v57), (24, v54), (23, v51), (22, v48), (21, v45), (20, (σ 4)), (19, v42), (18, v39), (17, (σ 3)), (14, v38), (13, v35), (12, v32), (11, v29), (10, (σ 4))]) h79 (hBlk 2 (hBlk 1 (hSeq (fun σ h => g34_C4 call lf σ h k) k))))
  (k (.exit 0) (updL σ [(14, v38), (13, v35), (12, v32), (11, v29), (10, (σ 4))]) h)
noncomputable def g34_C5 (call : Call) (lf : Nat) (σ : St) (h : AHeap) (k : KS) : Option Ans :=
  cBin EK .gtr 3 (σ 3) (Go.Value.int Go.IntKind.i64 2500) fun v181 =>
  k .ret (updL σ [(2, v181), (63, v181), (62, (σ 3))]) h
noncomputable def g34 (call : Call) (lf : Nat) (σ : St) (h : AHeap) (k : KS) : Option Ans :=
  cNew (σ 0).cells.toList 67 h fun v3 h4 =>
  cFieldAddr 0 v3 fun v9 =>
  cLoad1 (.slc) v9 h4 fun v12 =>
  cLenS v12 fun v15 =>
  cBin EK .gtr 3 v15 (Go.Value.int Go.IntKind.i64 120) fun v18 =>
  cIf v18
  (k .ret (updL σ [(2, (Go.Value.bool true)), (9, v18), (8, v15), (7, v12), (6, v9), (2, (Go.Value.bool false)), (1, v3)]) h4)
  (loopS (g34_L1 call lf) lf (updL σ [(4, (Go.Value.int Go.IntKind.i64 0)), (3, (Go.Value.int Go.IntKind.i64 0)), (9, v18), (8, v15), (7, v12), (6, v9), (2, (Go.Value.bool false)), (1, v3)]) h4 (hBlk 0 (hSeq (fun σ h => g34_C5 call lf σ h k) k)))
theorem g34_eq (call : Call) (lf : Nat) (args : List Value) (h : AHeap) : evB EK call lf 34 args h = g34 call lf (st0 args) h (finS EK [.tmp 2]) := by kernel_rfl
theorem c34 (call : Call) (args : List Value) (h : AHeap) (K kp : K2) : evCall EK call 34 args h K kp = cCall call 34 args [(false, [.bool])] h K kp := by kernel_rfl
-- "kerf/kerfref05.Matches"
noncomputable def g36 (call : Call) (lf : Nat) (σ : St) (h : AHeap) (k : KS) : Option Ans :=
  cNew (σ 0).cells.toList 64 h fun v3 h4 =>
  cLoadA [.int .i64, .slc, .slc] v3 h4 fun v9 =>
  cCall call 39 [v9, (σ 1)] [(false, [.slc])] h4 (fun v14 h15 =>
  cLenS (σ 1) fun v20 =>
  cCall call 71 [v14, v20] [(false, [.bool])] h15 (fun v23 h24 =>
  k .ret (updL σ [(4, v23), (10, v23), (9, v20), (8, (σ 1)), (7, v14), (6, (σ 1)), (5, v9), (4, (Go.Value.bool false)), (2, v3)]) h24) (fun v21 h22 => k (.panic v21) (updL σ [(9, v20), (8, (σ 1)), (7, v14), (6, (σ 1)), (5, v9), (4, (Go.Value.bool false)), (2, v3)]) h22)) (fun v12 h13 => k (.panic v12) (updL σ [(6, (σ 1)), (5, v9), (4, (Go.Value.bool false)), (2, v3)]) h13)
theorem g36_eq (call : Call) (lf : Nat) (args : List Value) (h : AHeap) : evB EK call lf 36 args h = g36 call lf (st0 args) h (finS EK [.tmp 4]) := by kernel_rfl
theorem c36 (call : Call) (args : List Value) (h : AHeap) (K kp : K2) : evCall EK call 36 args h K kp = cCall call 36 args [(false, [.bool])] h K kp := by kernel_rfl
-- "kerf/kerflaw06.ints"
noncomputable def g37_L1 (call : Call) (lf : Nat) (σ : St) (h : AHeap) (k : KS) : Option Ans :=
  cLenS (σ 0) fun v26 =>
  cBin EK .lss 3 (σ 5) v26 fun v29 =>
  cIf v29
  (dr (cIdxS 1 (σ 0) (σ 5) fun v32 =>
  rety v32 h) fun v30 h31 =>
  dr (cLoad1 (.int .i64) v30 h31 fun v35 =>
  rety v35 h31) fun v33 h34 =>
  dr (cIdxS 1 (σ 1) (σ 5) fun v38 =>
  rety v38 h34) fun v36 h37 =>
  dr (cLoad1 (.int .i64) v36 h37 fun v41 =>
  rety v41 h37) fun v39 h40 =>
  dr (cBin EK .neq 3 v33 v39 fun v44 =>
  rety v44 h40) fun v42 h43 =>
  cIf v42
  (k .ret (updL σ [(4, (Go.Value.bool false)), (25, v42), (24, v39), (23, v36), (22, (σ 5)), (21, (σ 1)), (20, v33), (19, v30), (18, (σ 5)), (17, (σ 0)), (14, v29), (13, v26), (12, (σ 0)), (11, (σ 5))]) h43)
  (cBin EK .add 3 (σ 5) (Go.Value.int Go.IntKind.i64 1) fun v51 =>
  k .normal (updL σ [(5, v51), (16, v51), (15, (σ 5)), (25, v42), (24, v39), (23, v36), (22, (σ 5)), (21, (σ 1)), (20, v33), (19, v30), (18, (σ 5)), (17, (σ 0)), (14, v29), (13, v26), (12, (σ 0)), (11, (σ 5))]) h43))
  (k (.exit 0) (updL σ [(14, v29), (13, v26), (12, (σ 0)), (11, (σ 5))]) h)
noncomputable def g37_C2 (call : Call) (lf : Nat) (σ : St) (h : AHeap) (k : KS) : Option Ans :=
  k .ret (updL σ [(4, (Go.Value.bool true))]) h
noncomputable def g37 (call : Call) (lf : Nat) (σ : St) (h : AHeap) (k : KS) : Option Ans :=
  cLenS (σ 0) fun v7 =>
  cLenS (σ 1) fun v12 =>
  cBin EK .neq 3 v7 v12 fun v15 =>
  cIf v15
  (k .ret (updL σ [(4, (Go.Value.bool false)), (10, v15), (9, v12), (8, (σ 1)), (7, v7), (6, (σ 0)), (4, (Go.Value.bool false))]) h)
  (loopS (g37_L1 call lf) lf (updL σ [(5, (Go.Value.int Go.IntKind.i64 0)), (10, v15), (9, v12), (8, (σ 1)), (7, v7), (6, (σ 0)), (4, (Go.Value.bool false))]) h (hBlk 0 (hSeq (fun σ h => g37_C2 call lf σ h k) k)))
theorem g37_eq (call : Call) (lf : Nat) (args : List Value) (h : AHeap) : evB EK call lf 37 args h = g37 call lf (st0 args) h (finS EK [.tmp 4]) := by kernel_rfl
theorem c37 (call : Call) (args : List Value) (h : AHeap) (K kp : K2) : evCall EK call 37 args h K kp = cCall call 37 args [(false, [.bool])] h K kp := by kernel_rfl
-- "kerf/kerfref05.Ends"
noncomputable def g39_C2 (call : Call) (lf : Nat) (σ : St) (h : AHeap) (k : KS) : Option Ans :=
  cBin EK .add 3 (σ 7) (Go.Value.int Go.IntKind.i64 1) fun v76 =>
  k .normal (updL σ [(7, v76), (21, v76), (20, (σ 7))]) h
noncomputable def g39_L1 (call : Call) (lf : Nat) (σ : St) (h : AHeap) (k : KS) : Option Ans :=
  cLenS (σ 1) fun v46 =>
  cBin EK .leq 3 (σ 7) v46 fun v49 =>
  cIf v49
  (cCall call 77 [(σ 5), (σ 7)] [(false, [.bool])] h (fun v56 h57 =>
  cIf v56
  (cBuildS 3 1 [(0, 1, (σ 7))] [(.int .i64 (0))] h57 fun v64 h65 =>
  cAppend 3 1 8 (σ 6) v64 h65 fun v68 h69 =>
  g39_C2 call lf (updL σ [(6, v68), (28, v68), (27, v64), (26, (σ 7)), (25, (σ 6)), (24, v56), (23, (σ 7)), (22, (σ 5)), (19, v49), (18, v46), (17, (σ 1)), (16, (σ 7))]) h69 k)
  (g39_C2 call lf (updL σ [(24, v56), (23, (σ 7)), (22, (σ 5)), (19, v49), (18, v46), (17, (σ 1)), (16, (σ 7))]) h57 k)) (fun v54 h55 => k (.panic v54) (updL σ [(23, (σ 7)), (22, (σ 5)), (19, v49), (18, v46), (17, (σ 1)), (16, (σ 7))]) h55))
  (k (.exit 0) (updL σ [(19, v49), (18, v46), (17, (σ 1)), (16, (σ 7))]) h)
noncomputable def g39_C3 (call : Call) (lf : Nat) (σ : St) (h : AHeap) (k : KS) : Option Ans :=
  k .ret (updL σ [(4, (σ 6)), (29, (σ 6))]) h
noncomputable def g39 (call : Call) (lf : Nat) (σ : St) (h : AHeap) (k : KS) : Option Ans :=
  cNew (σ 0).cells.toList 64 h fun v3 h4 =>
  cLoadA [.int .i64, .slc, .slc] v3 h4 fun v9 =>
  cCall call 75 [v9] [(false, [.bool])] h4 (fun v12 h13 =>
  cUn .not v12 fun v16 =>
  cIf v16
  (k .ret (updL σ [(4, (Go.Value.slice none 0 0)), (10, v16), (9, v12), (8, v9), (4, (Go.Value.slice none 0 0)), (2, v3)]) h13)
  (cLoadA [.int .i64, .slc, .slc] v3 h13 fun v21 =>
  cCall call 76 [v21, (σ 1)] [(false, [.slc])] h13 (fun v26 h27 =>
  cIdxS 1 v26 (Go.Value.int Go.IntKind.i64 0) fun v30 =>
  cLoad1 (.slc) v30 h27 fun v33 =>
  loopS (g39_L1 call lf) lf (updL σ [(7, (Go.Value.int Go.IntKind.i64 0)), (6, (Go.Value.slice none 0 0)), (5, v33), (15, v33), (14, v30), (13, v26), (12, (σ 1)), (11, v21), (10, v16), (9, v12), (8, v9), (4, (Go.Value.slice none 0 0)), (2, v3)]) h27 (hBlk 0 (hSeq (fun σ h => g39_C3 call lf σ h k) k))) (fun v24 h25 => k (.panic v24) (updL σ [(12, (σ 1)), (11, v21), (10, v16), (9, v12), (8, v9), (4, (Go.Value.slice none 0 0)), (2, v3)]) h25))) (fun v10 h11 => k (.panic v10) (updL σ [(8, v9), (4, (Go.Value.slice none 0 0)), (2, v3)]) h11)
theorem g39_eq (call : Call) (lf : Nat) (args : List Value) (h : AHeap) : evB EK call lf 39 args h = g39 call lf (st0 args) h (finS EK [.tmp 4]) := by kernel_rfl
theorem c39 (call : Call) (args : List Value) (h : AHeap) (K kp : K2) : evCall EK call 39 args h K kp = cCall call 39 args [(false, [.slc])] h K kp := by kernel_rfl
-- "kerf/kerfref05.in"
noncomputable def g71_L1 (call : Call) (lf : Nat) (σ : St) (h : AHeap) (k : KS) : Option Ans :=
  cLenS (σ 0) fun v11 =>
  cBin EK .lss 3 (σ 5) v11 fun v14 =>
  cIf v14
  (cIdxS 1 (σ 0) (σ 5) fun v21 =>
  cLoad1 (.int .i64) v21 h fun v24 =>
  cBin EK .eql 3 v24 (σ 1) fun v29 =>
  cIf v29
  (k .ret (updL σ [(4, (Go.Value.bool true)), (17, v29), (16, (σ 1)), (15, v24), (14, v21), (13, (σ 5)), (12, (σ 0)), (9, v14), (8, v11), (7, (σ 0)), (6, (σ 5))]) h)
  (cBin EK .add 3 (σ 5) (Go.Value.int Go.IntKind.i64 1) fun v36 =>
  k .normal (updL σ [(5, v36), (11, v36), (10, (σ 5)), (17, v29), (16, (σ 1)), (15, v24), (14, v21), (13, (σ 5)), (12, (σ 0)), (9, v14), (8, v11), (7, (σ 0)), (6, (σ 5))]) h))
  (k (.exit 0) (updL σ [(9, v14), (8, v11), (7, (σ 0)), (6, (σ 5))]) h)
noncomputable def g71_C2 (call : Call) (lf : Nat) (σ : St) (h : AHeap) (k : KS) : Option Ans :=
  k .ret (updL σ [(4, (Go.Value.bool false))]) h
noncomputable def g71 (call : Call) (lf : Nat) (σ : St) (h : AHeap) (k : KS) : Option Ans :=
  loopS (g71_L1 call lf) lf (updL σ [(5, (Go.Value.int Go.IntKind.i64 0)), (4, (Go.Value.bool false))]) h (hBlk 0 (hSeq (fun σ h => g71_C2 call lf σ h k) k))
theorem g71_eq (call : Call) (lf : Nat) (args : List Value) (h : AHeap) : evB EK call lf 71 args h = g71 call lf (st0 args) h (finS EK [.tmp 4]) := by kernel_rfl
theorem c71 (call : Call) (args : List Value) (h : AHeap) (K kp : K2) : evCall EK call 71 args h K kp = cCall call 71 args [(false, [.bool])] h K kp := by kernel_rfl
-- "kerf/kerfref05.Good"
noncomputable def g75 (call : Call) (lf : Nat) (σ : St) (h : AHeap) (k : KS) : Option Ans :=
  cNew (σ 0).cells.toList 64 h fun v3 h4 =>
  cLoadA [.int .i64, .slc, .slc] v3 h4 fun v9 =>
  cCall call 62 [v9, (Go.Value.int Go.IntKind.i64 2147483647)] [(false, [.int .i64])] h4 (fun v12 h13 =>
  cBin EK .eql 3 v12 (Go.Value.int Go.IntKind.i64 0) fun v16 =>
  k .ret (updL σ [(2, v16), (5, v16), (4, v12), (3, v9), (2, (Go.Value.bool false)), (1, v3)]) h13) (fun v10 h11 => k (.panic v10) (updL σ [(3, v9), (2, (Go.Value.bool false)), (1, v3)]) h11)
theorem g75_eq (call : Call) (lf : Nat) (args : List Value) (h : AHeap) : evB EK call lf 75 args h = g75 call lf (st0 args) h (finS EK [.tmp 2]) := by kernel_rfl
theorem c75 (call : Call) (args : List Value) (h : AHeap) (K kp : K2) : evCall EK call 75 args h K kp = cCall call 75 args [(false, [.bool])] h K kp := by kernel_rfl
-- "kerf/kerfref05.leads"
noncomputable def g76_C2 (call : Call) (lf : Nat) (σ : St) (h : AHeap) (k : KS) : Option Ans :=
  cBin EK .add 3 (σ 7) (Go.Value.int Go.IntKind.i64 1) fun v87 =>
  k .normal (updL σ [(7, v87), (27, v87), (26, (σ 7))]) h
noncomputable def g76_L1 (call : Call) (lf : Nat) (σ : St) (h : AHeap) (k : KS) : Option Ans :=
  cLenS (σ 1) fun v44 =>
  cBin EK .lss 3 (σ 7) v44 fun v47 =>
  cIf v47
  (dr (cFieldAddr 1 (σ 2) fun v50 =>
  rety v50 h) fun v48 h49 =>
  dr (cLoad1 (.slc) v48 h49 fun v53 =>
  rety v53 h49) fun v51 h52 =>
  dr (cIdxS 1 (σ 1) (σ 7) fun v56 =>
  rety v56 h52) fun v54 h55 =>
  dr (cLoad1 (.int .i64) v54 h55 fun v59 =>
  rety v59 h55) fun v57 h58 =>
  dr (cCall call 71 [v51, v57] [(false, [.bool])] h58 (fun v62 h63 =>
  rety v62 h63) nopan) fun v60 h61 =>
  cIf v60
  (cIdxS 1 (σ 6) (σ 7) fun v70 =>
  cLoad1 (.slc) v70 h61 fun v73 =>
  cBin EK .add 3 (σ 7) (Go.Value.int Go.IntKind.i64 1) fun v78 =>
  cCall call 115 [v73, v78] [] h61 (fun v81 h82 =>
  g76_C2 call lf (updL σ [(41, v81), (40, v78), (39, (σ 7)), (38, v73), (37, v70), (36, (σ 7)), (35, (σ 6)), (34, v60), (33, v57), (32, v54), (31, (σ 7)), (30, (σ 1)), (29, v51), (28, v48), (25, v47), (24, v44), (23, (σ 1)), (22, (σ 7))]) h82 k) (fun v79 h80 => k (.panic v79) (updL σ [(40, v78), (39, (σ 7)), (38, v73), (37, v70), (36, (σ 7)), (35, (σ 6)), (34, v60), (33, v57), (32, v54), (31, (σ 7)), (30, (σ 1)), (29, v51), (28, v48), (25, v47), (24, v44), (23, (σ 1)), (22, (σ 7))]) h80))
  (g76_C2 call lf (updL σ [(34, v60), (33, v57), (32, v54), (31, (σ 7)), (30, (σ 1)), (29, v51), (28, v48), (25, v47), (24, v44), (23, (σ 1)), (22, (σ 7))]) h61 k))
  (k (.exit 1) (updL σ [(25, v47), (24, v44), (23, (σ 1)), (22, (σ 7))]) h)
noncomputable def g76_C3 (call : Call) (lf : Nat) (σ : St) (h : AHeap) (k : KS) : Option Ans :=
  k .ret (updL σ [(4, (σ 6)), (42, (σ 6))]) h
noncomputable def g76_C4 (call : Call) (lf : Nat) (σ : St) (h : AHeap) (k : KS) : Option Ans :=
  cCall call 116 [(σ 5)] [(false, [.slc])] h (fun v98 h99 =>
  k .ret (updL σ [(4, v98), (118, v98), (117, (σ 5))]) h99) (fun v96 h97 => k (.panic v96) (updL σ [(117, (σ 5))]) h97)
noncomputable def g76_L5 (call : Call) (lf : Nat) (σ : St) (h : AHeap) (k : KS) : Option Ans :=
  cFieldAddr 2 (σ 2) fun v121 =>
  cLoad1 (.slc) v121 h fun v124 =>
  cLenS v124 fun v127 =>
  cBin EK .lss 3 (σ 9) v127 fun v130 =>
  cIf v130
  (cFieldAddr 2 (σ 2) fun v135 =>
  cLoad1 (.slc) v135 h fun v138 =>
  cIdxS 3 v138 (σ 9) fun v143 =>
  cLoadA [.int .i64, .slc, .slc] v143 h fun v146 =>
  cCall call 76 [v146, (σ 1)] [(false, [.slc])] h (fun v151 h152 =>
  cCall call 117 [(σ 8), v151] [(false, [.slc])] h152 (fun v155 h156 =>
  cBin EK .add 3 (σ 9) (Go.Value.int Go.IntKind.i64 1) fun v163 =>
  k .normal (updL σ [(9, v163), (53, v163), (52, (σ 9)), (8, v155), (62, v155), (61, v151), (60, (σ 1)), (59, v146), (58, v143), (57, (σ 9)), (56, v138), (55, v135), (54, (σ 8)), (51, v130), (50, v127), (49, v124), (48, v121), (47, (σ 9))]) h156) (fun v153 h154 => k (.panic v153) (updL σ [(61, v151), (60, (σ 1)), (59, v146), (58, v143), (57, (σ 9)), (56, v138), (55, v135), (54, (σ 8)), (51, v130), (50, v127), (49, v124), (48, v121), (47, (σ 9))]) h154)) (fun v149 h150 => k (.panic v149) (updL σ [(60, (σ 1)), (59, v146), (58, v143), (57, (σ 9)), (56, v138), (55, v135), (54, (σ 8)), (51, v130), (50, v127), (49, v124), (48, v121), (47, (σ 9))]) h150))
  (k (.exit 3) (updL σ [(51, v130), (50, v127), (49, v124), (48, v121), (47, (σ 9))]) h)
noncomputable def g76_C6 (call : Call) (lf : Nat) (σ : St) (h : AHeap) (k : KS) : Option Ans :=
  k .ret (updL σ [(4, (σ 8)), (63, (σ 8))]) h
noncomputable def g76_L7 (call : Call) (lf : Nat) (σ : St) (h : AHeap) (k : KS) : Option Ans :=
  cFieldAddr 2 (σ 2) fun v189 =>
  cLoad1 (.slc) v189 h fun v192 =>
  cLenS v192 fun v195 =>
  cBin EK .lss 3 (σ 11) v195 fun v198 =>
  cIf v198
  (cFieldAddr 2 (σ 2) fun v203 =>
  cLoad1 (.slc) v203 h fun v206 =>
  cIdxS 3 v206 (σ 11) fun v211 =>
  cLoadA [.int .i64, .slc, .slc] v211 h fun v214 =>
  cCall call 76 [v214, (σ 1)] [(false, [.slc])] h (fun v219 h220 =>
  cCall call 118 [(σ 10), v219] [(false, [.slc])] h220 (fun v223 h224 =>
  cBin EK .add 3 (σ 11) (Go.Value.int Go.IntKind.i64 1) fun v231 =>
  k .normal (updL σ [(11, v231), (74, v231), (73, (σ 11)), (10, v223), (83, v223), (82, v219), (81, (σ 1)), (80, v214), (79, v211), (78, (σ 11)), (77, v206), (76, v203), (75, (σ 10)), (72, v198), (71, v195), (70, v192), (69, v189), (68, (σ 11))]) h224) (fun v221 h222 => k (.panic v221) (updL σ [(82, v219), (81, (σ 1)), (80, v214), (79, v211), (78, (σ 11)), (77, v206), (76, v203), (75, (σ 10)), (72, v198), (71, v195), (70, v192), (69, v189), (68, (σ 11))]) h222)) (fun v217 h218 => k (.panic v217) (updL σ [(81, (σ 1)), (80, v214), (79, v211), (78, (σ 11)), (77, v206), (76, v203), (75, (σ 10)), (72, v198), (71, v195), (70, v192), (69, v189), (68, (σ 11))]) h218))
  (k (.exit 5) (updL σ [(72, v198), (71, v195), (70, v192), (69, v189), (68, (σ 11))]) h)
noncomputable def g76_C8 (call : Call) (lf : Nat) (σ : St) (h : AHeap) (k : KS) : Option Ans :=
  k .ret (updL σ [(4, (σ 10)), (84, (σ 10))]) h
noncomputable def g76 (call : Call) (lf : Nat) (σ : St) (h : AHeap) (k : KS) : Option Ans :=
  cNew (σ 0).cells.toList 64 h fun v3 h4 =>
  cLenS (σ 1) fun v11 =>
  cBin EK .add 3 v11 (Go.Value.int Go.IntKind.i64 1) fun v14 =>
  cFieldAddr 0 v3 fun v19 =>
  cLoad1 (.int .i64) v19 h4 fun v22 =>
  cBin EK .eql 3 v22 (Go.Value.int Go.IntKind.i64 1) fun v25 =>
  cIf v25
  (cCall call 114 [v14] [(false, [.slc])] h4 (fun v32 h33 =>
  loopS (g76_L1 call lf) lf (updL σ [(7, (Go.Value.int Go.IntKind.i64 0)), (6, v32), (21, v32), (20, v14), (18, v25), (19, v25), (17, v22), (16, v19), (5, v14), (15, v14), (14, v11), (13, (σ 1)), (4, (Go.Value.slice none 0 0)), (2, v3)]) h33 (hBlk 1 (hSeq (fun σ h => g76_C3 call lf σ h k) (hBlk 0 (hSeq (fun σ h => g76_C4 call lf σ h k) k))))) (fun v30 h31 => k (.panic v30) (updL σ [(20, v14), (18, v25), (19, v25), (17, v22), (16, v19), (5, v14), (15, v14), (14, v11), (13, (σ 1)), (4, (Go.Value.slice none 0 0)), (2, v3)]) h31))
  (cBin EK .eql 3 v22 (Go.Value.int Go.IntKind.i64 2) fun v104 =>
  cIf v104
  (cCall call 116 [v14] [(false, [.slc])] h4 (fun v111 h112 =>
  loopS (g76_L5 call lf) lf (updL σ [(9, (Go.Value.int Go.IntKind.i64 0)), (8, v111), (46, v111), (45, v14), (43, v104), (44, v104), (18, v25), (19, v25), (17, v22), (16, v19), (5, v14), (15, v14), (14, v11), (13, (σ 1)), (4, (Go.Value.slice none 0 0)), (2, v3)]) h112 (hBlk 3 (hSeq (fun σ h => g76_C6 call lf σ h k) (hBlk 0 (hSeq (fun σ h => g76_C4 call lf σ h k) k))))) (fun v109 h110 => k (.panic v109) (updL σ [(45, v14), (43, v104), (44, v104), (18, v25), (19, v25), (17, v22), (16, v19), (5, v14), (15, v14), (14, v11), (13, (σ 1)), (4, (Go.Value.slice none 0 0)), (2, v3)]) h110))
  (cBin EK .eql 3 v22 (Go.Value.int Go.IntKind.i64 3) fun v172 =>
  cIf v172
  (cCall call 114 [v14] [(false, [.slc])] h4 (fun v179 h180 =>
  loopS (g76_L7 call lf) lf (updL σ [(11, (Go.Value.int Go.IntKind.i64 0)), (10, v179), (67, v179), (66, v14), (64, v172), (65, v172), (43, v104), (44, v104), (18, v25), (19, v25), (17, v22), (16, v19), (5, v14), (15, v14), (14, v11), (13, (σ 1)), (4, (Go.Value.slice none 0 0)), (2, v3)]) h180 (hBlk 5 (hSeq (fun σ h => g76_C8 call lf σ h k) (hBlk 0 (hSeq (fun σ h => g76_C4 call lf σ h k) k))))) (fun v177 h178 => k (.panic v177) (updL σ [(66, v14), (64, v172), (65, v172), (43, v104), (44, v104), (18, v25), (19, v25), (17, v22), (16, v19), (5, v14), (15, v14), (14, v11), (13, (σ 1)), (4, (Go.Value.slice none 0 0)), (2, v3)]) h178))
  (cBin EK .eql 3 v22 (Go.Value.int Go.IntKind.i64 4) fun v240 =>
  cIf v240
  (cFieldAddr 2 v3 fun v245 =>
  cLoad1 (.slc) v245 h4 fun v248 =>
  cIdxS 3 v248 (Go.Value.int Go.IntKind.i64 0) fun v251 =>
  cLoadA [.int .i64, .slc, .slc] v251 h4 fun v254 =>
  cCall call 76 [v254, (σ 1)] [(false, [.slc])] h4 (fun v259 h260 =>
  cCall call 119 [v259] [(false, [.slc])] h260 (fun v263 h264 =>
  k .ret (updL σ [(4, v263), (93, v263), (92, v259), (91, (σ 1)), (90, v254), (89, v251), (88, v248), (87, v245), (85, v240), (86, v240), (64, v172), (65, v172), (43, v104), (44, v104), (18, v25), (19, v25), (17, v22), (16, v19), (5, v14), (15, v14), (14, v11), (13, (σ 1)), (4, (Go.Value.slice none 0 0)), (2, v3)]) h264) (fun v261 h262 => k (.panic v261) (updL σ [(92, v259), (91, (σ 1)), (90, v254), (89, v251), (88, v248), (87, v245), (85, v240), (86, v240), (64, v172), (65, v172), (43, v104), (44, v104), (18, v25), (19, v25), (17, v22), (16, v19), (5, v14), (15, v14), (14, v11), (13, (σ 1)), (4, (Go.Value.slice none 0 0)), (2, v3)]) h262)) (fun v257 h258 => k (.panic v257) (updL σ [(91, (σ 1)), (90, v254), (89, v251), (88, v248), (87, v245), (85, v240), (86, v240), (64, v172), (65, v172), (43, v104), (44, v104), (18, v25), (19, v25), (17, v22), (16, v19), (5, v14), (15, v14), (14, v11), (13, (σ 1)), (4, (Go.Value.slice none 0 0)), (2, v3)]) h258))
  (cBin EK .eql 3 v22 (Go.Value.int Go.IntKind.i64 5) fun v269 =>
  cIf v269
  (cFieldAddr 2 v3 fun v274 =>
  cLoad1 (.slc) v274 h4 fun v277 =>
  cIdxS 3 v277 (Go.Value.int Go.IntKind.i64 0) fun v280 =>
  cLoadA [.int .i64, .slc, .slc] v280 h4 fun v283 =>
  cCall call 76 [v283, (σ 1)] [(false, [.slc])] h4 (fun v288 h289 =>
  cCall call 119 [v288] [(false, [.slc])] h289 (fun v298 h299 =>
  cCall call 117 [v288, v298] [(false, [.slc])] h299 (fun v302 h303 =>
  k .ret (updL σ [(4, v302), (105, v302), (104, v298), (103, v288), (102, v288), (12, v288), (101, v288), (100, (σ 1)), (99, v283), (98, v280), (97, v277), (96, v274), (94, v269), (95, v269), (85, v240), (86, v240), (64, v172), (65, v172), (43, v104), (44, v104), (18, v25), (19, v25), (17, v22), (16, v19), (5, v14), (15, v14), (14, v11), (13, (σ 1)), (4, (Go.Value.slice none 0 0)), (2, v3)]) h303) (fun v300 h301 => k (.panic v300) (updL σ [(104, v298), (103, v288), (102, v288), (12, v288), (101, v288), (100, (σ 1)), (99, v283), (98, v280), (97, v277), (96, v274), (94, v269), (95, v269), (85, v240), (86, v240), (64, v172), (65, v172), (43, v104), (44, v104), (18, v25), (19, v25), (17, v22), (16, v19), (5, v14), (15, v14), (14, v11), (13, (σ 1)), (4, (Go.Value.slice none 0 0)), (2, v3)]) h301)) (fun v296 h297 => k (.panic v296) (updL σ [(103, v288), (102, v288), (12, v288), (101, v288), (100, (σ 1)), (99, v283), (98, v280), (97, v277), (96, v274), (94, v269), (95, v269), (85, v240), (86, v240), (64, v172), (65, v172), (43, v104), (44, v104), (18, v25), (19, v25), (17, v22), (16, v19), (5, v14), (15, v14), (14, v11), (13, (σ 1)), (4, (Go.Value.slice none 0 0)), (2, v3)]) h297)) (fun v286 h287 => k (.panic v286) (updL σ [(100, (σ 1)), (99, v283), (98, v280), (97, v277), (96, v274), (94, v269), (95, v269), (85, v240), (86, v240), (64, v172), (65, v172), (43, v104), (44, v104), (18, v25), (19, v25), (17, v22), (16, v19), (5, v14), (15, v14), (14, v11), (13, (σ 1)), (4, (Go.Value.slice none 0 0)), (2, v3)]) h287))
  (cBin EK .eql 3 v22 (Go.Value.int Go.IntKind.i64 6) fun v308 =>
  cIf v308
  (dr (cFieldAddr 2 v3 fun v313 =>
  rety v313 h4) fun v311 h312 =>
  dr (cLoad1 (.slc) v311 h312 fun v316 =>
  rety v316 h312) fun v314 h315 =>
  dr (cIdxS 3 v314 (Go.Value.int Go.IntKind.i64 0) fun v319 =>
  rety v319 h315) fun v317 h318 =>
  dr (cLoadA [.int .i64, .slc, .slc] v317 h318 fun v322 =>
  rety v322 h318) fun v320 h321 =>
  dr (cCall call 116 [v14] [(false, [.slc])] h321 (fun v325 h326 =>
  rety v325 h326) nopan) fun v323 h324 =>
  rk (rety (σ 1) h324) (σ 1) (
  rk (cLoadA [.int .i64, .slc, .slc] v317 h324 fun v327 =>
  rety v327 h324) v320 (
  rk (cIdxS 3 v314 (Go.Value.int Go.IntKind.i64 0) fun v328 =>
  rety v328 h324) v317 (
  rk (cLoad1 (.slc) v311 h324 fun v329 =>
  rety v329 h324) v314 (
  rk (cFieldAddr 2 v3 fun v330 =>
  rety v330 h324) v311 (
  dr (cCall call 76 [v320, (σ 1)] [(false, [.slc])] h324 (fun v333 h334 =>
  rety v333 h334) nopan) fun v331 h332 =>
  dr (cCall call 118 [v323, v331] [(false, [.slc])] h332 (fun v337 h338 =>
  rety v337 h338) nopan) fun v335 h336 =>
  k .ret (updL σ [(4, v335), (116, v335), (115, v331), (109, v323), (114, (σ 1)), (113, v320), (112, v317), (111, v314), (110, v311), (108, v14), (106, v308), (107, v308), (94, v269), (95, v269), (85, v240), (86, v240), (64, v172), (65, v172), (43, v104), (44, v104), (18, v25), (19, v25), (17, v22), (16, v19), (5, v14), (15, v14), (14, v11), (13, (σ 1)), (4, (Go.Value.slice none 0 0)), (2, v3)]) h336))))))
  (g76_C4 call lf (updL σ [(106, v308), (107, v308), (94, v269), (95, v269), (85, v240), (86, v240), (64, v172), (65, v172), (43, v104), (44, v104), (18, v25), (19, v25), (17, v22), (16, v19), (5, v14), (15, v14), (14, v11), (13, (σ 1)), (4, (Go.Value.slice none 0 0)), (2, v3)]) h4 k))))))
theorem g76_eq (call : Call) (lf : Nat) (args : List Value) (h : AHeap) : evB EK call lf 76 args h = g76 call lf (st0 args) h (finS EK [.tmp 4]) := by kernel_rfl
theorem c76 (call : Call) (args : List Value) (h : AHeap) (K kp : K2) : evCall EK call 76 args h K kp = cCall call 76 args [(false, [.slc])] h K kp := by kernel_rfl
-- "(kerf/kerfref05.Row).has"
noncomputable def g77 (call : Call) (lf : Nat) (σ : St) (h : AHeap) (k : KS) : Option Ans :=
  cBin EK .quo 3 (σ 1) (Go.Value.int Go.IntKind.i64 64) fun v9 =>
  cIdxS 1 (σ 0) v9 fun v12 =>
  cLoad1 (.int .u64) v12 h fun v15 =>
  cBin EK .rem 3 (σ 1) (Go.Value.int Go.IntKind.i64 64) fun v20 =>
  opConvertR EK idR h (fun v23 h24 =>
  cBin EK .shr 167 v15 v23 fun v27 =>
  cBin EK .and 167 v27 (Go.Value.int Go.IntKind.u64 1) fun v30 =>
  cBin EK .eql 167 v30 (Go.Value.int Go.IntKind.u64 1) fun v33 =>
  k .ret (updL σ [(4, v33), (15, v33), (14, v30), (13, v27), (12, v23), (11, v20), (10, (σ 1)), (9, v15), (8, v12), (7, v9), (6, (σ 1)), (5, (σ 0)), (4, (Go.Value.bool false))]) h24) 3 168 (.const v20)
theorem g77_eq (call : Call) (lf : Nat) (args : List Value) (h : AHeap) : evB EK call lf 77 args h = g77 call lf (st0 args) h (finS EK [.tmp 4]) := by kernel_rfl
theorem c77 (call : Call) (args : List Value) (h : AHeap) (K kp : K2) : evCall EK call 77 args h K kp = cCall call 77 args [(false, [.bool])] h K kp := by kernel_rfl
-- "kerf/kerfref05.none"
noncomputable def g114_L1 (call : Call) (lf : Nat) (σ : St) (h : AHeap) (k : KS) : Option Ans :=
  cBin EK .lss 3 (σ 4) (σ 0) fun v13 =>
  cIf v13
  (cBin EK .quo 3 (σ 0) (Go.Value.int Go.IntKind.i64 64) fun v20 =>
  cBin EK .add 3 v20 (Go.Value.int Go.IntKind.i64 1) fun v23 =>
  cMakeS 167 [(.int .u64 (0))] 8 v23 v23 h fun v26 h27 =>
  cBuildS 120 1 [(0, 1, v26)] [(.slice none 0 0)] h27 fun v30 h31 =>
  cAppend 120 1 24 (σ 3) v30 h31 fun v34 h35 =>
  cBin EK .add 3 (σ 4) (Go.Value.int Go.IntKind.i64 1) fun v42 =>
  k .normal (updL σ [(4, v42), (9, v42), (8, (σ 4)), (3, v34), (16, v34), (15, v30), (14, v26), (13, v23), (12, v20), (11, (σ 0)), (10, (σ 3)), (7, v13), (6, (σ 0)), (5, (σ 4))]) h35)
  (k (.exit 0) (updL σ [(7, v13), (6, (σ 0)), (5, (σ 4))]) h)
noncomputable def g114_C2 (call : Call) (lf : Nat) (σ : St) (h : AHeap) (k : KS) : Option Ans :=
  k .ret (updL σ [(2, (σ 3)), (17, (σ 3))]) h
noncomputable def g114 (call : Call) (lf : Nat) (σ : St) (h : AHeap) (k : KS) : Option Ans :=
  loopS (g114_L1 call lf) lf (updL σ [(4, (Go.Value.int Go.IntKind.i64 0)), (3, (Go.Value.slice none 0 0)), (2, (Go.Value.slice none 0 0))]) h (hBlk 0 (hSeq (fun σ h => g114_C2 call lf σ h k) k))
theorem g114_eq (call : Call) (lf : Nat) (args : List Value) (h : AHeap) : evB EK call lf 114 args h = g114 call lf (st0 args) h (finS EK [.tmp 2]) := by kernel_rfl
theorem c114 (call : Call) (args : List Value) (h : AHeap) (K kp : K2) : evCall EK call 114 args h K kp = cCall call 114 args [(false, [.slc])] h K kp := by kernel_rfl
-- "(kerf/kerfref05.Row).set"
noncomputable def g115 (call : Call) (lf : Nat) (σ : St) (h : AHeap) (k : KS) : Option Ans :=
  cBin EK .quo 3 (σ 1) (Go.Value.int Go.IntKind.i64 64) fun v7 =>
  cBin EK .quo 3 (σ 1) (Go.Value.int Go.IntKind.i64 64) fun v14 =>
  cIdxS 1 (σ 0) v14 fun v17 =>
  cLoad1 (.int .u64) v17 h fun v20 =>
  cBin EK .rem 3 (σ 1) (Go.Value.int Go.IntKind.i64 64) fun v25 =>
  opConvertR EK idR h (fun v28 h29 =>
  cBin EK .shl 167 (Go.Value.int Go.IntKind.u64 1) v28 fun v32 =>
  cBin EK .or 167 v20 v32 fun v35 =>
  cIdxS 1 (σ 0) v7 fun v38 =>
  cStore 1 v38 v35 h29 fun h41 =>
  k .normal (updL σ [(17, v38), (16, v35), (15, v32), (14, v28), (13, v25), (12, (σ 1)), (11, v20), (10, v17), (9, v14), (8, (σ 1)), (7, (σ 0)), (6, v7), (5, (σ 1)), (4, (σ 0))]) h41) 3 168 (.const v25)
theorem g115_eq (call : Call) (lf : Nat) (args : List Value) (h : AHeap) : evB EK call lf 115 args h = g115 call lf (st0 args) h (finS EK []) := by kernel_rfl
theorem c115 (call : Call) (args : List Value) (h : AHeap) (K kp : K2) : evCall EK call 115 args h K kp = cCall call 115 args [] h K kp := by kernel_rfl
-- "kerf/kerfref05.own"
noncomputable def g116_L1 (call : Call) (lf : Nat) (σ : St) (h : AHeap) (k : KS) : Option Ans :=
  cBin EK .lss 3 (σ 4) (σ 0) fun v19 =>
  cIf v19
  (cIdxS 1 (σ 3) (σ 4) fun v26 =>
  cLoad1 (.slc) v26 h fun v29 =>
  cCall call 115 [v29, (σ 4)] [] h (fun v34 h35 =>
  cBin EK .add 3 (σ 4) (Go.Value.int Go.IntKind.i64 1) fun v40 =>
  k .normal (updL σ [(4, v40), (11, v40), (10, (σ 4)), (17, v34), (16, (σ 4)), (15, v29), (14, v26), (13, (σ 4)), (12, (σ 3)), (9, v19), (8, (σ 0)), (7, (σ 4))]) h35) (fun v32 h33 => k (.panic v32) (updL σ [(16, (σ 4)), (15, v29), (14, v26), (13, (σ 4)), (12, (σ 3)), (9, v19), (8, (σ 0)), (7, (σ 4))]) h33))
  (k (.exit 0) (updL σ [(9, v19), (8, (σ 0)), (7, (σ 4))]) h)
noncomputable def g116_C2 (call : Call) (lf : Nat) (σ : St) (h : AHeap) (k : KS) : Option Ans :=
  k .ret (updL σ [(2, (σ 3)), (18, (σ 3))]) h
noncomputable def g116 (call : Call) (lf : Nat) (σ : St) (h : AHeap) (k : KS) : Option Ans :=
  cCall call 114 [(σ 0)] [(false, [.slc])] h (fun v7 h8 =>
  loopS (g116_L1 call lf) lf (updL σ [(4, (Go.Value.int Go.IntKind.i64 0)), (3, v7), (6, v7), (5, (σ 0)), (2, (Go.Value.slice none 0 0))]) h8 (hBlk 0 (hSeq (fun σ h => g116_C2 call lf σ h k) k))) (fun v5 h6 => k (.panic v5) (updL σ [(5, (σ 0)), (2, (Go.Value.slice none 0 0))]) h6)
theorem g116_eq (call : Call) (lf : Nat) (args : List Value) (h : AHeap) : evB EK call lf 116 args h = g116 call lf (st0 args) h (finS EK [.tmp 2]) := by kernel_rfl
theorem c116 (call : Call) (args : List Value) (h : AHeap) (K kp : K2) : evCall EK call 116 args h K kp = cCall call 116 args [(false, [.slc])] h K kp := by kernel_rfl
-- "kerf/kerfref05.behind"
noncomputable def g117_C3 (call : Call) (lf : Nat) (σ : St) (h : AHeap) (k : KS) : Option Ans :=
  cBin EK .add 3 (σ 8) (Go.Value.int Go.IntKind.i64 1) fun v72 =>
  k .normal (updL σ [(8, v72), (22, v72), (21, (σ 8))]) h
noncomputable def g117_L2 (call : Call) (lf : Nat) (σ : St) (h : AHeap) (k : KS) : Option Ans :=
  cBin EK .lss 3 (σ 8) (σ 5) fun v35 =>
  cIf v35
  (cIdxS 1 (σ 0) (σ 7) fun v42 =>
  cLoad1 (.slc) v42 h fun v45 =>
  cCall call 77 [v45, (σ 8)] [(false, [.bool])] h (fun v50 h51 =>
  cIf v50
  (dr (cIdxS 1 (σ 6) (σ 7) fun v54 =>
  rety v54 h51) fun v52 h53 =>
  dr (cLoad1 (.slc) v52 h53 fun v57 =>
  rety v57 h53) fun v55 h56 =>
  dr (cIdxS 1 (σ 1) (σ 8) fun v60 =>
  rety v60 h56) fun v58 h59 =>
  dr (cLoad1 (.slc) v58 h59 fun v63 =>
  rety v63 h59) fun v61 h62 =>
  dr (cCall call 139 [v55, v61] [] h62 (fun v66 h67 =>
  rety v66 h67) nopan) fun v64 h65 =>
  g117_C3 call lf (updL σ [(37, v64), (36, v61), (35, v58), (34, (σ 8)), (33, (σ 1)), (32, v55), (31, v52), (30, (σ 7)), (29, (σ 6)), (28, v50), (27, (σ 8)), (26, v45), (25, v42), (24, (σ 7)), (23, (σ 0)), (20, v35), (19, (σ 5)), (18, (σ 8))]) h65 k)
  (g117_C3 call lf (updL σ [(28, v50), (27, (σ 8)), (26, v45), (25, v42), (24, (σ 7)), (23, (σ 0)), (20, v35), (19, (σ 5)), (18, (σ 8))]) h51 k)) (fun v48 h49 => k (.panic v48) (updL σ [(27, (σ 8)), (26, v45), (25, v42), (24, (σ 7)), (23, (σ 0)), (20, v35), (19, (σ 5)), (18, (σ 8))]) h49))
  (k (.exit 2) (updL σ [(20, v35), (19, (σ 5)), (18, (σ 8))]) h)
noncomputable def g117_C4 (call : Call) (lf : Nat) (σ : St) (h : AHeap) (k : KS) : Option Ans :=
  cBin EK .add 3 (σ 7) (Go.Value.int Go.IntKind.i64 1) fun v79 =>
  k .normal (updL σ [(7, v79), (17, v79), (16, (σ 7))]) h
noncomputable def g117_L1 (call : Call) (lf : Nat) (σ : St) (h : AHeap) (k : KS) : Option Ans :=
  cBin EK .lss 3 (σ 7) (σ 5) fun v26 =>
  cIf v26
  (loopS (g117_L2 call lf) lf (updL σ [(8, (Go.Value.int Go.IntKind.i64 0)), (15, v26), (14, (σ 5)), (13, (σ 7))]) h (hBlk 2 (hBlk 1 (hSeq (fun σ h => g117_C4 call lf σ h k) k))))
  (k (.exit 0) (updL σ [(15, v26), (14, (σ 5)), (13, (σ 7))]) h)
noncomputable def g117_C5 (call : Call) (lf : Nat) (σ : St) (h : AHeap) (k : KS) : Option Ans :=
  k .ret (updL σ [(4, (σ 6)), (38, (σ 6))]) h
noncomputable def g117 (call : Call) (lf : Nat) (σ : St) (h : AHeap) (k : KS) : Option Ans :=
  cLenS (σ 0) fun v7 =>
  cCall call 114 [v7] [(false, [.slc])] h (fun v14 h15 =>
  loopS (g117_L1 call lf) lf (updL σ [(7, (Go.Value.int Go.IntKind.i64 0)), (6, v14), (12, v14), (11, v7), (5, v7), (10, v7), (9, (σ 0)), (4, (Go.Value.slice none 0 0))]) h15 (hBlk 0 (hSeq (fun σ h => g117_C5 call lf σ h k) k))) (fun v12 h13 => k (.panic v12) (updL σ [(11, v7), (5, v7), (10, v7), (9, (σ 0)), (4, (Go.Value.slice none 0 0))]) h13)
theorem g117_eq (call : Call) (lf : Nat) (args : List Value) (h : AHeap) : evB EK call lf 117 args h = g117 call lf (st0 args) h (finS EK [.tmp 4]) := by kernel_rfl
theorem c117 (call : Call) (args : List Value) (h : AHeap) (K kp : K2) : evCall EK call 117 args h K kp = cCall call 117 args [(false, [.slc])] h K kp := by kernel_rfl
-- "kerf/kerfref05.both"
noncomputable def g118_L1 (call : Call) (lf : Nat) (σ : St) (h : AHeap) (k : KS) : Option Ans :=
  cLenS (σ 0) fun v22 =>
  cBin EK .lss 3 (σ 6) v22 fun v25 =>
  cIf v25
  (dr (cIdxS 1 (σ 5) (σ 6) fun v28 =>
  rety v28 h) fun v26 h27 =>
  dr (cLoad1 (.slc) v26 h27 fun v31 =>
  rety v31 h27) fun v29 h30 =>
  dr (cIdxS 1 (σ 0) (σ 6) fun v34 =>
  rety v34 h30) fun v32 h33 =>
  dr (cLoad1 (.slc) v32 h33 fun v37 =>
  rety v37 h33) fun v35 h36 =>
  dr (cCall call 139 [v29, v35] [] h36 (fun v40 h41 =>
  rety v40 h41) nopan) fun v38 h39 =>
  dr (cIdxS 1 (σ 5) (σ 6) fun v44 =>
  rety v44 h39) fun v42 h43 =>
  dr (cLoad1 (.slc) v42 h43 fun v47 =>
  rety v47 h43) fun v45 h46 =>
  dr (cIdxS 1 (σ 1) (σ 6) fun v50 =>
  rety v50 h46) fun v48 h49 =>
  dr (cLoad1 (.slc) v48 h49 fun v53 =>
  rety v53 h49) fun v51 h52 =>
  dr (cCall call 139 [v45, v51] [] h52 (fun v56 h57 =>
  rety v56 h57) nopan) fun v54 h55 =>
  cBin EK .add 3 (σ 6) (Go.Value.int Go.IntKind.i64 1) fun v62 =>
  k .normal (updL σ [(6, v62), (15, v62), (14, (σ 6)), (33, v54), (32, v51), (31, v48), (30, (σ 6)), (29, (σ 1)), (28, v45), (27, v42), (26, (σ 6)), (25, (σ 5)), (24, v38), (23, v35), (22, v32), (21, (σ 6)), (20, (σ 0)), (19, v29), (18, v26), (17, (σ 6)), (16, (σ 5)), (13, v25), (12, v22), (11, (σ 0)), (10, (σ 6))]) h55)
  (k (.exit 0) (updL σ [(13, v25), (12, v22), (11, (σ 0)), (10, (σ 6))]) h)
noncomputable def g118_C2 (call : Call) (lf : Nat) (σ : St) (h : AHeap) (k : KS) : Option Ans :=
  k .ret (updL σ [(4, (σ 5)), (34, (σ 5))]) h
noncomputable def g118 (call : Call) (lf : Nat) (σ : St) (h : AHeap) (k : KS) : Option Ans :=
  cLenS (σ 0) fun v7 =>
  cCall call 114 [v7] [(false, [.slc])] h (fun v10 h11 =>
  loopS (g118_L1 call lf) lf (updL σ [(6, (Go.Value.int Go.IntKind.i64 0)), (5, v10), (9, v10), (8, v7), (7, (σ 0)), (4, (Go.Value.slice none 0 0))]) h11 (hBlk 0 (hSeq (fun σ h => g118_C2 call lf σ h k) k))) (fun v8 h9 => k (.panic v8) (updL σ [(8, v7), (7, (σ 0)), (4, (Go.Value.slice none 0 0))]) h9)
theorem g118_eq (call : Call) (lf : Nat) (args : List Value) (h : AHeap) : evB EK call lf 118 args h = g118 call lf (st0 args) h (finS EK [.tmp 4]) := by kernel_rfl
theorem c118 (call : Call) (args : List Value) (h : AHeap) (K kp : K2) : evCall EK call 118 args h K kp = cCall call 118 args [(false, [.slc])] h K kp := by kernel_rfl
-- "kerf/kerfref05.more"
noncomputable def g119_C3 (call : Call) (lf : Nat) (σ : St) (h : AHeap) (k : KS) : Option Ans :=
  cBin EK .add 3 (σ 6) (Go.Value.int Go.IntKind.i64 1) fun v78 =>
  k .normal (updL σ [(6, v78), (22, v78), (21, (σ 6))]) h
noncomputable def g119_L2 (call : Call) (lf : Nat) (σ : St) (h : AHeap) (k : KS) : Option Ans :=
  cBin EK .lss 3 (σ 6) (σ 3) fun v41 =>
  cIf v41
  (cIdxS 1 (σ 4) (σ 6) fun v48 =>
  cLoad1 (.slc) v48 h fun v51 =>
  cCall call 77 [v51, (σ 5)] [(false, [.bool])] h (fun v56 h57 =>
  cIf v56
  (dr (cIdxS 1 (σ 4) (σ 6) fun v60 =>
  rety v60 h57) fun v58 h59 =>
  dr (cLoad1 (.slc) v58 h59 fun v63 =>
  rety v63 h59) fun v61 h62 =>
  dr (cIdxS 1 (σ 4) (σ 5) fun v66 =>
  rety v66 h62) fun v64 h65 =>
  dr (cLoad1 (.slc) v64 h65 fun v69 =>
  rety v69 h65) fun v67 h68 =>
  dr (cCall call 139 [v61, v67] [] h68 (fun v72 h73 =>
  rety v72 h73) nopan) fun v70 h71 =>
  g119_C3 call lf (updL σ [(37, v70), (36, v67), (35, v64), (34, (σ 5)), (33, (σ 4)), (32, v61), (31, v58), (30, (σ 6)), (29, (σ 4)), (28, v56), (27, (σ 5)), (26, v51), (25, v48), (24, (σ 6)), (23, (σ 4)), (20, v41), (19, (σ 3)), (18, (σ 6))]) h71 k)
  (g119_C3 call lf (updL σ [(28, v56), (27, (σ 5)), (26, v51), (25, v48), (24, (σ 6)), (23, (σ 4)), (20, v41), (19, (σ 3)), (18, (σ 6))]) h57 k)) (fun v54 h55 => k (.panic v54) (updL σ [(27, (σ 5)), (26, v51), (25, v48), (24, (σ 6)), (23, (σ 4)), (20, v41), (19, (σ 3)), (18, (σ 6))]) h55))
  (k (.exit 2) (updL σ [(20, v41), (19, (σ 3)), (18, (σ 6))]) h)
noncomputable def g119_C4 (call : Call) (lf : Nat) (σ : St) (h : AHeap) (k : KS) : Option Ans :=
  cBin EK .add 3 (σ 5) (Go.Value.int Go.IntKind.i64 1) fun v85 =>
  k .normal (updL σ [(5, v85), (17, v85), (16, (σ 5))]) h
noncomputable def g119_L1 (call : Call) (lf : Nat) (σ : St) (h : AHeap) (k : KS) : Option Ans :=
  cBin EK .lss 3 (σ 5) (σ 3) fun v32 =>
  cIf v32
  (loopS (g119_L2 call lf) lf (updL σ [(6, (Go.Value.int Go.IntKind.i64 0)), (15, v32), (14, (σ 3)), (13, (σ 5))]) h (hBlk 2 (hBlk 1 (hSeq (fun σ h => g119_C4 call lf σ h k) k))))
  (k (.exit 0) (updL σ [(15, v32), (14, (σ 3)), (13, (σ 5))]) h)
noncomputable def g119_C5 (call : Call) (lf : Nat) (σ : St) (h : AHeap) (k : KS) : Option Ans :=
  k .ret (updL σ [(2, (σ 4)), (38, (σ 4))]) h
noncomputable def g119 (call : Call) (lf : Nat) (σ : St) (h : AHeap) (k : KS) : Option Ans :=
  cLenS (σ 0) fun v7 =>
  cCall call 116 [v7] [(false, [.slc])] h (fun v16 h17 =>
  cCall call 118 [(σ 0), v16] [(false, [.slc])] h17 (fun v20 h21 =>
  loopS (g119_L1 call lf) lf (updL σ [(5, (Go.Value.int Go.IntKind.i64 0)), (4, v20), (12, v20), (11, v16), (10, v7), (9, (σ 0)), (3, v7), (8, v7), (7, (σ 0)), (2, (Go.Value.slice none 0 0))]) h21 (hBlk 0 (hSeq (fun σ h => g119_C5 call lf σ h k) k))) (fun v18 h19 => k (.panic v18) (updL σ [(11, v16), (10, v7), (9, (σ 0)), (3, v7), (8, v7), (7, (σ 0)), (2, (Go.Value.slice none 0 0))]) h19)) (fun v14 h15 => k (.panic v14) (updL σ [(10, v7), (9, (σ 0)), (3, v7), (8, v7), (7, (σ 0)), (2, (Go.Value.slice none 0 0))]) h15)
theorem g119_eq (call : Call) (lf : Nat) (args : List Value) (h : AHeap) : evB EK call lf 119 args h = g119 call lf (st0 args) h (finS EK [.tmp 2]) := by kernel_rfl
theorem c119 (call : Call) (args : List Value) (h : AHeap) (K kp : K2) : evCall EK call 119 args h K kp = cCall call 119 args [(false, [.slc])] h K kp := by kernel_rfl
-- "(kerf/kerfref05.Row).add"
noncomputable def g139_L1 (call : Call) (lf : Nat) (σ : St) (h : AHeap) (k : KS) : Option Ans :=
  cLenS (σ 0) fun v9 =>
  cBin EK .lss 3 (σ 4) v9 fun v12 =>
  cIf v12
  (dr (cIdxS 1 (σ 0) (σ 4) fun v15 =>
  rety v15 h) fun v13 h14 =>
  dr (cLoad1 (.int .u64) v13 h14 fun v18 =>
  rety v18 h14) fun v16 h17 =>
  dr (cIdxS 1 (σ 1) (σ 4) fun v21 =>
  rety v21 h17) fun v19 h20 =>
  dr (cLoad1 (.int .u64) v19 h20 fun v24 =>
  rety v24 h20) fun v22 h23 =>
  dr (cBin EK .or 167 v16 v22 fun v27 =>
  rety v27 h23) fun v25 h26 =>
  dr (cIdxS 1 (σ 0) (σ 4) fun v30 =>
  rety v30 h26) fun v28 h29 =>
  dr (cStore 1 v28 v25 h29 fun h33 =>
  rety undef h33) fun v31 h32 =>
  cBin EK .add 3 (σ 4) (Go.Value.int Go.IntKind.i64 1) fun v38 =>
  k .normal (updL σ [(4, v38), (10, v38), (9, (σ 4)), (22, v28), (21, v25), (20, v22), (19, v19), (18, (σ 4)), (17, (σ 1)), (16, v16), (15, v13), (14, (σ 4)), (13, (σ 0)), (12, (σ 4)), (11, (σ 0)), (8, v12), (7, v9), (6, (σ 0)), (5, (σ 4))]) h32)
  (k (.exit 0) (updL σ [(8, v12), (7, v9), (6, (σ 0)), (5, (σ 4))]) h)
noncomputable def g139 (call : Call) (lf : Nat) (σ : St) (h : AHeap) (k : KS) : Option Ans :=
  loopS (g139_L1 call lf) lf (updL σ [(4, (Go.Value.int Go.IntKind.i64 0))]) h (hBlk 0 k)
theorem g139_eq (call : Call) (lf : Nat) (args : List Value) (h : AHeap) : evB EK call lf 139 args h = g139 call lf (st0 args) h (finS EK []) := by kernel_rfl
theorem c139 (call : Call) (args : List Value) (h : AHeap) (K kp : K2) : evCall EK call 139 args h K kp = cCall call 139 args [] h K kp := by kernel_rfl
end Go.Amb
