/- Part of the proof by the abstract machine: no claim of its own. -/
import Derived.Test.YtnfncnchbogncaaDoorU5
import Derived.Test.YtnfncnchbogncaaDoorA23
import Derived.KernelRfl
set_option linter.unusedSimpArgs false
set_option linter.unusedVariables false
set_option linter.unnecessarySimpa false
set_option linter.unusedSectionVars false
set_option linter.unusedVariables false
set_option maxRecDepth 100000
namespace Go.Amb
open Go.Proofs
-- "kerf/kerflaw01.UtfRange"
noncomputable def g3_C2 (call : Call) (lf : Nat) (σ : St) (h : AHeap) (k : KS) : Option Ans :=
  cIf (σ 53)
  (cStore 1 (σ 4) (Go.Value.bool false) h fun h115 =>
  k .ret σ h115)
  (cLoad1 (.int .i64) (σ 7) h fun v118 =>
  cBin UE .add 3 v118 (Go.Value.int Go.IntKind.i64 1) fun v121 =>
  cStore 1 (σ 7) v121 h fun h124 =>
  k .normal (updL σ [(55, v121), (54, v118)]) h124)
noncomputable def g3_L1 (call : Call) (lf : Nat) (σ : St) (h : AHeap) (k : KS) : Option Ans :=
  opNextR idR h (fun v74 h75 =>
  cExtract v74 0 fun v78 =>
  cIf v78
  (cExtract v74 1 fun v81 =>
  cExtract v74 2 fun v84 =>
  cLoad1 (.int .i64) (σ 7) h75 fun v91 =>
  cLoad1 (.slc) (σ 6) h75 fun v94 =>
  cLenS v94 fun v97 =>
  cBin UE .geq 3 v91 v97 fun v100 =>
  gd v100
  (cPick (Value.bool true) (Go.Value.bool true) undef fun v106 =>
  gd v106
  (cPick (Value.bool true) (Go.Value.bool true) undef fun v112 =>
  g3_C2 call lf (updL σ [(53, v112), (52, undef), (45, (Value.bool true)), (51, undef), (45, (Value.bool true)), (50, undef), (45, (Value.bool true)), (49, undef), (45, (Value.bool true)), (48, undef), (45, (Value.bool true)), (47, undef), (45, (Value.bool true)), (46, undef), (45, (Value.bool true)), (45, v106), (44, v106), (43, undef), (36, (Value.bool true)), (42, undef), (36, (Value.bool true)), (41, undef), (36, (Value.bool true)), (40, undef), (36, (Value.bool true)), (39, undef), (36, (Value.bool true)), (38, undef), (36, (Value.bool true)), (37, undef), (36, (Value.bool true)), (36, v100), (35, v100), (34, v97), (33, v94), (32, v91), (9, v84), (8, v81), (31, v84), (30, v81), (29, v78), (28, v74)]) h75 k)
  (cLoad1 (.slc) (σ 6) h75 fun v127 =>
  cLoad1 (.int .i64) (σ 7) h75 fun v130 =>
  cIdxS 4 v127 v130 fun v133 =>
  cFieldAddr 2 v133 fun v136 =>
  cLoad1 (.int .i32) v136 h75 fun v139 =>
  cBin UE .neq 21 v139 v84 fun v144 =>
  cPick (Value.bool false) (Go.Value.bool true) v144 fun v147 =>
  g3_C2 call lf (updL σ [(53, v147), (52, v144), (45, (Value.bool false)), (51, v84), (45, (Value.bool false)), (50, v139), (45, (Value.bool false)), (49, v136), (45, (Value.bool false)), (48, v133), (45, (Value.bool false)), (47, v130), (45, (Value.bool false)), (46, v127), (45, (Value.bool false)), (45, v106), (44, v106), (43, undef), (36, (Value.bool true)), (42, undef), (36, (Value.bool true)), (41, undef), (36, (Value.bool true)), (40, undef), (36, (Value.bool true)), (39, undef), (36, (Value.bool true)), (38, undef), (36, (Value.bool true)), (37, undef), (36, (Value.bool true)), (36, v100), (35, v100), (34, v97), (33, v94), (32, v91), (9, v84), (8, v81), (31, v84), (30, v81), (29, v78), (28, v74)]) h75 k)
  (fun c109 => cPick (Value.tuple c109) (Go.Value.bool true) undef fun v150 =>
  g3_C2 call lf (updL σ [(53, v150), (52, undef), (45, (Value.tuple c109)), (51, undef), (45, (Value.tuple c109)), (50, undef), (45, (Value.tuple c109)), (49, undef), (45, (Value.tuple c109)), (48, undef), (45, (Value.tuple c109)), (47, undef), (45, (Value.tuple c109)), (46, undef), (45, (Value.tuple c109)), (45, v106), (44, v106), (43, undef), (36, (Value.bool true)), (42, undef), (36, (Value.bool true)), (41, undef), (36, (Value.bool true)), (40, undef), (36, (Value.bool true)), (39, undef), (36, (Value.bool true)), (38, undef), (36, (Value.bool true)), (37, undef), (36, (Value.bool true)), (36, v100), (35, v100), (34, v97), (33, v94), (32, v91), (9, v84), (8, v81), (31, v84), (30, v81), (29, v78), (28, v74)]) h75 k))
  (cLoad1 (.slc) (σ 6) h75 fun v153 =>
  cLoad1 (.int .i64) (σ 7) h75 fun v156 =>
  cIdxS 4 v153 v156 fun v159 =>
  cFieldAddr 0 v159 fun v162 =>
  cLoad1 (.int .i64) v162 h75 fun v165 =>
  cBin UE .neq 3 v165 v81 fun v170 =>
  cPick (Value.bool false) (Go.Value.bool true) v170 fun v173 =>
  gd v173
  (cPick (Value.bool true) (Go.Value.bool true) undef fun v179 =>
  g3_C2 call lf (updL σ [(53, v179), (52, undef), (45, (Value.bool true)), (51, undef), (45, (Value.bool true)), (50, undef), (45, (Value.bool true)), (49, undef), (45, (Value.bool true)), (48, undef), (45, (Value.bool true)), (47, undef), (45, (Value.bool true)), (46, undef), (45, (Value.bool true)), (45, v173), (44, v173), (43, v170), (36, (Value.bool false)), (42, v81), (36, (Value.bool false)), (41, v165), (36, (Value.bool false)), (40, v162), (36, (Value.bool false)), (39, v159), (36, (Value.bool false)), (38, v156), (36, (Value.bool false)), (37, v153), (36, (Value.bool false)), (36, v100), (35, v100), (34, v97), (33, v94), (32, v91), (9, v84), (8, v81), (31, v84), (30, v81), (29, v78), (28, v74)]) h75 k)
  (cLoad1 (.slc) (σ 6) h75 fun v182 =>
  cLoad1 (.int .i64) (σ 7) h75 fun v185 =>
  cIdxS 4 v182 v185 fun v188 =>
  cFieldAddr 2 v188 fun v191 =>
  cLoad1 (.int .i32) v191 h75 fun v194 =>
  cBin UE .neq 21 v194 v84 fun v199 =>
  cPick (Value.bool false) (Go.Value.bool true) v199 fun v202 =>
  g3_C2 call lf (updL σ [(53, v202), (52, v199), (45, (Value.bool false)), (51, v84), (45, (Value.bool false)), (50, v194), (45, (Value.bool false)), (49, v191), (45, (Value.bool false)), (48, v188), (45, (Value.bool false)), (47, v185), (45, (Value.bool false)), (46, v182), (45, (Value.bool false)), (45, v173), (44, v173), (43, v170), (36, (Value.bool false)), (42, v81), (36, (Value.bool false)), (41, v165), (36, (Value.bool false)), (40, v162), (36, (Value.bool false)), (39, v159), (36, (Value.bool false)), (38, v156), (36, (Value.bool false)), (37, v153), (36, (Value.bool false)), (36, v100), (35, v100), (34, v97), (33, v94), (32, v91), (9, v84), (8, v81), (31, v84), (30, v81), (29, v78), (28, v74)]) h75 k)
  (fun c176 => cPick (Value.tuple c176) (Go.Value.bool true) undef fun v205 =>
  g3_C2 call lf (updL σ [(53, v205), (52, undef), (45, (Value.tuple c176)), (51, undef), (45, (Value.tuple c176)), (50, undef), (45, (Value.tuple c176)), (49, undef), (45, (Value.tuple c176)), (48, undef), (45, (Value.tuple c176)), (47, undef), (45, (Value.tuple c176)), (46, undef), (45, (Value.tuple c176)), (45, v173), (44, v173), (43, v170), (36, (Value.bool false)), (42, v81), (36, (Value.bool false)), (41, v165), (36, (Value.bool false)), (40, v162), (36, (Value.bool false)), (39, v159), (36, (Value.bool false)), (38, v156), (36, (Value.bool false)), (37, v153), (36, (Value.bool false)), (36, v100), (35, v100), (34, v97), (33, v94), (32, v91), (9, v84), (8, v81), (31, v84), (30, v81), (29, v78), (28, v74)]) h75 k))
  (fun c103 => cPick (Value.tuple c103) (Go.Value.bool true) undef fun v208 =>
  gd v208
  (cPick (Value.bool true) (Go.Value.bool true) undef fun v214 =>
  g3_C2 call lf (updL σ [(53, v214), (52, undef), (45, (Value.bool true)), (51, undef), (45, (Value.bool true)), (50, undef), (45, (Value.bool true)), (49, undef), (45, (Value.bool true)), (48, undef), (45, (Value.bool true)), (47, undef), (45, (Value.bool true)), (46, undef), (45, (Value.bool true)), (45, v208), (44, v208), (43, undef), (36, (Value.tuple c103)), (42, undef), (36, (Value.tuple c103)), (41, undef), (36, (Value.tuple c103)), (40, undef), (36, (Value.tuple c103)), (39, undef), (36, (Value.tuple c103)), (38, undef), (36, (Value.tuple c103)), (37, undef), (36, (Value.tuple c103)), (36, v100), (35, v100), (34, v97), (33, v94), (32, v91), (9, v84), (8, v81), (31, v84), (30, v81), (29, v78), (28, v74)]) h75 k)
  (cLoad1 (.slc) (σ 6) h75 fun v217 =>
  cLoad1 (.int .i64) (σ 7) h75 fun v220 =>
  cIdxS 4 v217 v220 fun v223 =>
  cFieldAddr 2 v223 fun v226 =>
  cLoad1 (.int .i32) v226 h75 fun v229 =>
  cBin UE .neq 21 v229 v84 fun v234 =>
  cPick (Value.bool false) (Go.Value.bool true) v234 fun v237 =>
  g3_C2 call lf (updL σ [(53, v237), (52, v234), (45, (Value.bool false)), (51, v84), (45, (Value.bool false)), (50, v229), (45, (Value.bool false)), (49, v226), (45, (Value.bool false)), (48, v223), (45, (Value.bool false)), (47, v220), (45, (Value.bool false)), (46, v217), (45, (Value.bool false)), (45, v208), (44, v208), (43, undef), (36, (Value.tuple c103)), (42, undef), (36, (Value.tuple c103)), (41, undef), (36, (Value.tuple c103)), (40, undef), (36, (Value.tuple c103)), (39, undef), (36, (Value.tuple c103)), (38, undef), (36, (Value.tuple c103)), (37, undef), (36, (Value.tuple c103)), (36, v100), (35, v100), (34, v97), (33, v94), (32, v91), (9, v84), (8, v81), (31, v84), (30, v81), (29, v78), (28, v74)]) h75 k)
  (fun c211 => cPick (Value.tuple c211) (Go.Value.bool true) undef fun v240 =>
  g3_C2 call lf (updL σ [(53, v240), (52, undef), (45, (Value.tuple c211)), (51, undef), (45, (Value.tuple c211)), (50, undef), (45, (Value.tuple c211)), (49, undef), (45, (Value.tuple c211)), (48, undef), (45, (Value.tuple c211)), (47, undef), (45, (Value.tuple c211)), (46, undef), (45, (Value.tuple c211)), (45, v208), (44, v208), (43, undef), (36, (Value.tuple c103)), (42, undef), (36, (Value.tuple c103)), (41, undef), (36, (Value.tuple c103)), (40, undef), (36, (Value.tuple c103)), (39, undef), (36, (Value.tuple c103)), (38, undef), (36, (Value.tuple c103)), (37, undef), (36, (Value.tuple c103)), (36, v100), (35, v100), (34, v97), (33, v94), (32, v91), (9, v84), (8, v81), (31, v84), (30, v81), (29, v78), (28, v74)]) h75 k)))
  (k (.exit 0) (updL σ [(29, v78), (28, v74)]) h75)) (.const (σ 27))
noncomputable def g3_R5 (call : Call) (lf : Nat) (σ : St) (h : AHeap) (k : KS) : Option Ans :=
  k .normal (updL σ [(12, (σ 66)), (11, (σ 65))]) h
noncomputable def g3_R8 (call : Call) (lf : Nat) (σ : St) (h : AHeap) (k : KS) : Option Ans :=
  k .normal (updL σ [(15, (σ 91)), (14, (σ 90))]) h
noncomputable def g3_C10 (call : Call) (lf : Nat) (σ : St) (h : AHeap) (k : KS) : Option Ans :=
  cIf (σ 113)
  (cStore 1 (σ 4) (Go.Value.bool false) h fun h346 =>
  k .ret σ h346)
  (cLoad1 (.int .i64) (σ 13) h fun v349 =>
  cBin UE .add 3 v349 (Go.Value.int Go.IntKind.i64 1) fun v352 =>
  cStore 1 (σ 13) v352 h fun h355 =>
  cLoad1 (.int .i64) (σ 13) h355 fun v358 =>
  cLoad1 (.int .i64) (σ 3) h355 fun v361 =>
  cBin UE .eql 3 v358 v361 fun v364 =>
  cIf v364
  (k (.exit 6) (updL σ [(118, v364), (117, v361), (116, v358), (115, v352), (114, v349)]) h355)
  (k .normal (updL σ [(118, v364), (117, v361), (116, v358), (115, v352), (114, v349)]) h355))
noncomputable def g3_R9 (call : Call) (lf : Nat) (σ : St) (h : AHeap) (k : KS) : Option Ans :=
  cLoad1 (.int .i64) (σ 13) h fun v322 =>
  cLoad1 (.slc) (σ 6) h fun v325 =>
  cLenS v325 fun v328 =>
  cBin UE .geq 3 v322 v328 fun v331 =>
  gd v331
  (cPick (Value.bool true) (Go.Value.bool true) undef fun v337 =>
  gd v337
  (cPick (Value.bool true) (Go.Value.bool true) undef fun v343 =>
  g3_C10 call lf (updL σ [(113, v343), (112, undef), (105, (Value.bool true)), (111, undef), (105, (Value.bool true)), (110, undef), (105, (Value.bool true)), (109, undef), (105, (Value.bool true)), (108, undef), (105, (Value.bool true)), (107, undef), (105, (Value.bool true)), (106, undef), (105, (Value.bool true)), (105, v337), (104, v337), (103, undef), (96, (Value.bool true)), (102, undef), (96, (Value.bool true)), (101, undef), (96, (Value.bool true)), (100, undef), (96, (Value.bool true)), (99, undef), (96, (Value.bool true)), (98, undef), (96, (Value.bool true)), (97, undef), (96, (Value.bool true)), (96, v331), (95, v331), (94, v328), (93, v325), (92, v322)]) h k)
  (cLoad1 (.slc) (σ 6) h fun v367 =>
  cLoad1 (.int .i64) (σ 13) h fun v370 =>
  cIdxS 4 v367 v370 fun v373 =>
  cFieldAddr 2 v373 fun v376 =>
  cLoad1 (.int .i32) v376 h fun v379 =>
  cBin UE .neq 21 v379 (σ 15) fun v384 =>
  cPick (Value.bool false) (Go.Value.bool true) v384 fun v387 =>
  g3_C10 call lf (updL σ [(113, v387), (112, v384), (105, (Value.bool false)), (111, (σ 15)), (105, (Value.bool false)), (110, v379), (105, (Value.bool false)), (109, v376), (105, (Value.bool false)), (108, v373), (105, (Value.bool false)), (107, v370), (105, (Value.bool false)), (106, v367), (105, (Value.bool false)), (105, v337), (104, v337), (103, undef), (96, (Value.bool true)), (102, undef), (96, (Value.bool true)), (101, undef), (96, (Value.bool true)), (100, undef), (96, (Value.bool true)), (99, undef), (96, (Value.bool true)), (98, undef), (96, (Value.bool true)), (97, undef), (96, (Value.bool true)), (96, v331), (95, v331), (94, v328), (93, v325), (92, v322)]) h k)
  (fun c340 => cPick (Value.tuple c340) (Go.Value.bool true) undef fun v390 =>
  g3_C10 call lf (updL σ [(113, v390), (112, undef), (105, (Value.tuple c340)), (111, undef), (105, (Value.tuple c340)), (110, undef), (105, (Value.tuple c340)), (109, undef), (105, (Value.tuple c340)), (108, undef), (105, (Value.tuple c340)), (107, undef), (105, (Value.tuple c340)), (106, undef), (105, (Value.tuple c340)), (105, v337), (104, v337), (103, undef), (96, (Value.bool true)), (102, undef), (96, (Value.bool true)), (101, undef), (96, (Value.bool true)), (100, undef), (96, (Value.bool true)), (99, undef), (96, (Value.bool true)), (98, undef), (96, (Value.bool true)), (97, undef), (96, (Value.bool true)), (96, v331), (95, v331), (94, v328), (93, v325), (92, v322)]) h k))
  (cLoad1 (.slc) (σ 6) h fun v393 =>
  cLoad1 (.int .i64) (σ 13) h fun v396 =>
  cIdxS 4 v393 v396 fun v399 =>
  cFieldAddr 0 v399 fun v402 =>
  cLoad1 (.int .i64) v402 h fun v405 =>
  cBin UE .neq 3 v405 (σ 14) fun v410 =>
  cPick (Value.bool false) (Go.Value.bool true) v410 fun v413 =>
  gd v413
  (cPick (Value.bool true) (Go.Value.bool true) undef fun v419 =>
  g3_C10 call lf (updL σ [(113, v419), (112, undef), (105, (Value.bool true)), (111, undef), (105, (Value.bool true)), (110, undef), (105, (Value.bool true)), (109, undef), (105, (Value.bool true)), (108, undef), (105, (Value.bool true)), (107, undef), (105, (Value.bool true)), (106, undef), (105, (Value.bool true)), (105, v413), (104, v413), (103, v410), (96, (Value.bool false)), (102, (σ 14)), (96, (Value.bool false)), (101, v405), (96, (Value.bool false)), (100, v402), (96, (Value.bool false)), (99, v399), (96, (Value.bool false)), (98, v396), (96, (Value.bool false)), (97, v393), (96, (Value.bool false)), (96, v331), (95, v331), (94, v328), (93, v325), (92, v322)]) h k)
  (cLoad1 (.slc) (σ 6) h fun v422 =>
  cLoad1 (.int .i64) (σ 13) h fun v425 =>
  cIdxS 4 v422 v425 fun v428 =>
  cFieldAddr 2 v428 fun v431 =>
  cLoad1 (.int .i32) v431 h fun v434 =>
  cBin UE .neq 21 v434 (σ 15) fun v439 =>
  cPick (Value.bool false) (Go.Value.bool true) v439 fun v442 =>
  g3_C10 call lf (updL σ [(113, v442), (112, v439), (105, (Value.bool false)), (111, (σ 15)), (105, (Value.bool false)), (110, v434), (105, (Value.bool false)), (109, v431), (105, (Value.bool false)), (108, v428), (105, (Value.bool false)), (107, v425), (105, (Value.bool false)), (106, v422), (105, (Value.bool false)), (105, v413), (104, v413), (103, v410), (96, (Value.bool false)), (102, (σ 14)), (96, (Value.bool false)), (101, v405), (96, (Value.bool false)), (100, v402), (96, (Value.bool false)), (99, v399), (96, (Value.bool false)), (98, v396), (96, (Value.bool false)), (97, v393), (96, (Value.bool false)), (96, v331), (95, v331), (94, v328), (93, v325), (92, v322)]) h k)
  (fun c416 => cPick (Value.tuple c416) (Go.Value.bool true) undef fun v445 =>
  g3_C10 call lf (updL σ [(113, v445), (112, undef), (105, (Value.tuple c416)), (111, undef), (105, (Value.tuple c416)), (110, undef), (105, (Value.tuple c416)), (109, undef), (105, (Value.tuple c416)), (108, undef), (105, (Value.tuple c416)), (107, undef), (105, (Value.tuple c416)), (106, undef), (105, (Value.tuple c416)), (105, v413), (104, v413), (103, v410), (96, (Value.bool false)), (102, (σ 14)), (96, (Value.bool false)), (101, v405), (96, (Value.bool false)), (100, v402), (96, (Value.bool false)), (99, v399), (96, (Value.bool false)), (98, v396), (96, (Value.bool false)), (97, v393), (96, (Value.bool false)), (96, v331), (95, v331), (94, v328), (93, v325), (92, v322)]) h k))
  (fun c334 => cPick (Value.tuple c334) (Go.Value.bool true) undef fun v448 =>
  gd v448
  (cPick (Value.bool true) (Go.Value.bool true) undef fun v454 =>
  g3_C10 call lf (updL σ [(113, v454), (112, undef), (105, (Value.bool true)), (111, undef), (105, (Value.bool true)), (110, undef), (105, (Value.bool true)), (109, undef), (105, (Value.bool true)), (108, undef), (105, (Value.bool true)), (107, undef), (105, (Value.bool true)), (106, undef), (105, (Value.bool true)), (105, v448), (104, v448), (103, undef), (96, (Value.tuple c334)), (102, undef), (96, (Value.tuple c334)), (101, undef), (96, (Value.tuple c334)), (100, undef), (96, (Value.tuple c334)), (99, undef), (96, (Value.tuple c334)), (98, undef), (96, (Value.tuple c334)), (97, undef), (96, (Value.tuple c334)), (96, v331), (95, v331), (94, v328), (93, v325), (92, v322)]) h k)
  (cLoad1 (.slc) (σ 6) h fun v457 =>
  cLoad1 (.int .i64) (σ 13) h fun v460 =>
  cIdxS 4 v457 v460 fun v463 =>
  cFieldAddr 2 v463 fun v466 =>
  cLoad1 (.int .i32) v466 h fun v469 =>
  cBin UE .neq 21 v469 (σ 15) fun v474 =>
  cPick (Value.bool false) (Go.Value.bool true) v474 fun v477 =>
  g3_C10 call lf (updL σ [(113, v477), (112, v474), (105, (Value.bool false)), (111, (σ 15)), (105, (Value.bool false)), (110, v469), (105, (Value.bool false)), (109, v466), (105, (Value.bool false)), (108, v463), (105, (Value.bool false)), (107, v460), (105, (Value.bool false)), (106, v457), (105, (Value.bool false)), (105, v448), (104, v448), (103, undef), (96, (Value.tuple c334)), (102, undef), (96, (Value.tuple c334)), (101, undef), (96, (Value.tuple c334)), (100, undef), (96, (Value.tuple c334)), (99, undef), (96, (Value.tuple c334)), (98, undef), (96, (Value.tuple c334)), (97, undef), (96, (Value.tuple c334)), (96, v331), (95, v331), (94, v328), (93, v325), (92, v322)]) h k)
  (fun c451 => cPick (Value.tuple c451) (Go.Value.bool true) undef fun v480 =>
  g3_C10 call lf (updL σ [(113, v480), (112, undef), (105, (Value.tuple c451)), (111, undef), (105, (Value.tuple c451)), (110, undef), (105, (Value.tuple c451)), (109, undef), (105, (Value.tuple c451)), (108, undef), (105, (Value.tuple c451)), (107, undef), (105, (Value.tuple c451)), (106, undef), (105, (Value.tuple c451)), (105, v448), (104, v448), (103, undef), (96, (Value.tuple c334)), (102, undef), (96, (Value.tuple c334)), (101, undef), (96, (Value.tuple c334)), (100, undef), (96, (Value.tuple c334)), (99, undef), (96, (Value.tuple c334)), (98, undef), (96, (Value.tuple c334)), (97, undef), (96, (Value.tuple c334)), (96, v331), (95, v331), (94, v328), (93, v325), (92, v322)]) h k))
noncomputable def g3_C12 (call : Call) (lf : Nat) (σ : St) (h : AHeap) (k : KS) : Option Ans :=
  cIf (σ 127)
  (k (.exit 4) σ h)
  (k .normal σ h)
noncomputable def g3_C11 (call : Call) (lf : Nat) (σ : St) (h : AHeap) (k : KS) : Option Ans :=
  cLoad1 (.int .i64) (σ 7) h fun v483 =>
  cBin UE .add 3 v483 (Go.Value.int Go.IntKind.i64 1) fun v486 =>
  cStore 1 (σ 7) v486 h fun h489 =>
  cLoad1 (.int .i64) (σ 10) h489 fun v492 =>
  cBin UE .eql 3 v492 (Go.Value.int Go.IntKind.i64 0) fun v495 =>
  gd v495
  (cLoad1 (.int .i64) (σ 7) h489 fun v501 =>
  cLoad1 (.int .i64) (σ 3) h489 fun v504 =>
  cBin UE .eql 3 v501 v504 fun v507 =>
  cPick (Value.bool true) v507 (Go.Value.bool false) fun v510 =>
  g3_C12 call lf (updL σ [(127, v510), (126, v507), (123, (Value.bool true)), (125, v504), (123, (Value.bool true)), (124, v501), (123, (Value.bool true)), (123, v495), (122, v495), (121, v492), (120, v486), (119, v483)]) h489 k)
  (cPick (Value.bool false) undef (Go.Value.bool false) fun v513 =>
  g3_C12 call lf (updL σ [(127, v513), (126, undef), (123, (Value.bool false)), (125, undef), (123, (Value.bool false)), (124, undef), (123, (Value.bool false)), (123, v495), (122, v495), (121, v492), (120, v486), (119, v483)]) h489 k)
  (fun c498 => cPick (Value.tuple c498) undef (Go.Value.bool false) fun v516 =>
  g3_C12 call lf (updL σ [(127, v516), (126, undef), (123, (Value.tuple c498)), (125, undef), (123, (Value.tuple c498)), (124, undef), (123, (Value.tuple c498)), (123, v495), (122, v495), (121, v492), (120, v486), (119, v483)]) h489 k)
noncomputable def g3_C7 (call : Call) (lf : Nat) (σ : St) (h : AHeap) (k : KS) : Option Ans :=
  cIf (σ 88)
  (cStore 1 (σ 4) (Go.Value.bool false) h fun h305 =>
  k .ret σ h305)
  (cNew [(.int .i64 (0))] 3 h fun v308 h309 =>
  cStore 1 v308 (Go.Value.int Go.IntKind.i64 0) h309 fun h312 =>
  cLoad1 (.any) (σ 5) h312 fun v315 =>
  rangeS (UE).it v315 [90, 91] (g3_R8 call lf) (g3_R9 call lf) lf (updL σ [(89, v315), (13, v308)]) h312 (hBlk 6 (hSeq (fun σ h => g3_C11 call lf σ h k) (hBlk 5 k))))
noncomputable def g3_R6 (call : Call) (lf : Nat) (σ : St) (h : AHeap) (k : KS) : Option Ans :=
  cLoad1 (.int .i64) (σ 7) h fun v281 =>
  cLoad1 (.slc) (σ 6) h fun v284 =>
  cLenS v284 fun v287 =>
  cBin UE .geq 3 v281 v287 fun v290 =>
  gd v290
  (cPick (Value.bool true) (Go.Value.bool true) undef fun v296 =>
  gd v296
  (cPick (Value.bool true) (Go.Value.bool true) undef fun v302 =>
  g3_C7 call lf (updL σ [(88, v302), (87, undef), (80, (Value.bool true)), (86, undef), (80, (Value.bool true)), (85, undef), (80, (Value.bool true)), (84, undef), (80, (Value.bool true)), (83, undef), (80, (Value.bool true)), (82, undef), (80, (Value.bool true)), (81, undef), (80, (Value.bool true)), (80, v296), (79, v296), (78, undef), (71, (Value.bool true)), (77, undef), (71, (Value.bool true)), (76, undef), (71, (Value.bool true)), (75, undef), (71, (Value.bool true)), (74, undef), (71, (Value.bool true)), (73, undef), (71, (Value.bool true)), (72, undef), (71, (Value.bool true)), (71, v290), (70, v290), (69, v287), (68, v284), (67, v281)]) h k)
  (cLoad1 (.slc) (σ 6) h fun v519 =>
  cLoad1 (.int .i64) (σ 7) h fun v522 =>
  cIdxS 4 v519 v522 fun v525 =>
  cFieldAddr 2 v525 fun v528 =>
  cLoad1 (.int .i32) v528 h fun v531 =>
  cBin UE .neq 21 v531 (σ 12) fun v536 =>
  cPick (Value.bool false) (Go.Value.bool true) v536 fun v539 =>
  g3_C7 call lf (updL σ [(88, v539), (87, v536), (80, (Value.bool false)), (86, (σ 12)), (80, (Value.bool false)), (85, v531), (80, (Value.bool false)), (84, v528), (80, (Value.bool false)), (83, v525), (80, (Value.bool false)), (82, v522), (80, (Value.bool false)), (81, v519), (80, (Value.bool false)), (80, v296), (79, v296), (78, undef), (71, (Value.bool true)), (77, undef), (71, (Value.bool true)), (76, undef), (71, (Value.bool true)), (75, undef), (71, (Value.bool true)), (74, undef), (71, (Value.bool true)), (73, undef), (71, (Value.bool true)), (72, undef), (71, (Value.bool true)), (71, v290), (70, v290), (69, v287), (68, v284), (67, v281)]) h k)
  (fun c299 => cPick (Value.tuple c299) (Go.Value.bool true) undef fun v542 =>
  g3_C7 call lf (updL σ [(88, v542), (87, undef), (80, (Value.tuple c299)), (86, undef), (80, (Value.tuple c299)), (85, undef), (80, (Value.tuple c299)), (84, undef), (80, (Value.tuple c299)), (83, undef), (80, (Value.tuple c299)), (82, undef), (80, (Value.tuple c299)), (81, undef), (80, (Value.tuple c299)), (80, v296), (79, v296), (78, undef), (71, (Value.bool true)), (77, undef), (71, (Value.bool true)), (76, undef), (71, (Value.bool true)), (75, undef), (71, (Value.bool true)), (74, undef), (71, (Value.bool true)), (73, undef), (71, (Value.bool true)), (72, undef), (71, (Value.bool true)), (71, v290), (70, v290), (69, v287), (68, v284), (67, v281)]) h k))
  (cLoad1 (.slc) (σ 6) h fun v545 =>
  cLoad1 (.int .i64) (σ 7) h fun v548 =>
  cIdxS 4 v545 v548 fun v551 =>
  cFieldAddr 0 v551 fun v554 =>
  cLoad1 (.int .i64) v554 h fun v557 =>
  cBin UE .neq 3 v557 (σ 11) fun v562 =>
  cPick (Value.bool false) (Go.Value.bool true) v562 fun v565 =>
  gd v565
  (cPick (Value.bool true) (Go.Value.bool true) undef fun v571 =>
  g3_C7 call lf (updL σ [(88, v571), (87, undef), (80, (Value.bool true)), (86, undef), (80, (Value.bool true)), (85, undef), (80, (Value.bool true)), (84, undef), (80, (Value.bool true)), (83, undef), (80, (Value.bool true)), (82, undef), (80, (Value.bool true)), (81, undef), (80, (Value.bool true)), (80, v565), (79, v565), (78, v562), (71, (Value.bool false)), (77, (σ 11)), (71, (Value.bool false)), (76, v557), (71, (Value.bool false)), (75, v554), (71, (Value.bool false)), (74, v551), (71, (Value.bool false)), (73, v548), (71, (Value.bool false)), (72, v545), (71, (Value.bool false)), (71, v290), (70, v290), (69, v287), (68, v284), (67, v281)]) h k)
  (cLoad1 (.slc) (σ 6) h fun v574 =>
  cLoad1 (.int .i64) (σ 7) h fun v577 =>
  cIdxS 4 v574 v577 fun v580 =>
  cFieldAddr 2 v580 fun v583 =>
  cLoad1 (.int .i32) v583 h fun v586 =>
  cBin UE .neq 21 v586 (σ 12) fun v591 =>
  cPick (Value.bool false) (Go.Value.bool true) v591 fun v594 =>
  g3_C7 call lf (updL σ [(88, v594), (87, v591), (80, (Value.bool false)), (86, (σ 12)), (80, (Value.bool false)), (85, v586), (80, (Value.bool false)), (84, v583), (80, (Value.bool false)), (83, v580), (80, (Value.bool false)), (82, v577), (80, (Value.bool false)), (81, v574), (80, (Value.bool false)), (80, v565), (79, v565), (78, v562), (71, (Value.bool false)), (77, (σ 11)), (71, (Value.bool false)), (76, v557), (71, (Value.bool false)), (75, v554), (71, (Value.bool false)), (74, v551), (71, (Value.bool false)), (73, v548), (71, (Value.bool false)), (72, v545), (71, (Value.bool false)), (71, v290), (70, v290), (69, v287), (68, v284), (67, v281)]) h k)
  (fun c568 => cPick (Value.tuple c568) (Go.Value.bool true) undef fun v597 =>
  g3_C7 call lf (updL σ [(88, v597), (87, undef), (80, (Value.tuple c568)), (86, undef), (80, (Value.tuple c568)), (85, undef), (80, (Value.tuple c568)), (84, undef), (80, (Value.tuple c568)), (83, undef), (80, (Value.tuple c568)), (82, undef), (80, (Value.tuple c568)), (81, undef), (80, (Value.tuple c568)), (80, v565), (79, v565), (78, v562), (71, (Value.bool false)), (77, (σ 11)), (71, (Value.bool false)), (76, v557), (71, (Value.bool false)), (75, v554), (71, (Value.bool false)), (74, v551), (71, (Value.bool false)), (73, v548), (71, (Value.bool false)), (72, v545), (71, (Value.bool false)), (71, v290), (70, v290), (69, v287), (68, v284), (67, v281)]) h k))
  (fun c293 => cPick (Value.tuple c293) (Go.Value.bool true) undef fun v600 =>
  gd v600
  (cPick (Value.bool true) (Go.Value.bool true) undef fun v606 =>
  g3_C7 call lf (updL σ [(88, v606), (87, undef), (80, (Value.bool true)), (86, undef), (80, (Value.bool true)), (85, undef), (80, (Value.bool true)), (84, undef), (80, (Value.bool true)), (83, undef), (80, (Value.bool true)), (82, undef), (80, (Value.bool true)), (81, undef), (80, (Value.bool true)), (80, v600), (79, v600), (78, undef), (71, (Value.tuple c293)), (77, undef), (71, (Value.tuple c293)), (76, undef), (71, (Value.tuple c293)), (75, undef), (71, (Value.tuple c293)), (74, undef), (71, (Value.tuple c293)), (73, undef), (71, (Value.tuple c293)), (72, undef), (71, (Value.tuple c293)), (71, v290), (70, v290), (69, v287), (68, v284), (67, v281)]) h k)
  (cLoad1 (.slc) (σ 6) h fun v609 =>
  cLoad1 (.int .i64) (σ 7) h fun v612 =>
  cIdxS 4 v609 v612 fun v615 =>
  cFieldAddr 2 v615 fun v618 =>
  cLoad1 (.int .i32) v618 h fun v621 =>
  cBin UE .neq 21 v621 (σ 12) fun v626 =>
  cPick (Value.bool false) (Go.Value.bool true) v626 fun v629 =>
  g3_C7 call lf (updL σ [(88, v629), (87, v626), (80, (Value.bool false)), (86, (σ 12)), (80, (Value.bool false)), (85, v621), (80, (Value.bool false)), (84, v618), (80, (Value.bool false)), (83, v615), (80, (Value.bool false)), (82, v612), (80, (Value.bool false)), (81, v609), (80, (Value.bool false)), (80, v600), (79, v600), (78, undef), (71, (Value.tuple c293)), (77, undef), (71, (Value.tuple c293)), (76, undef), (71, (Value.tuple c293)), (75, undef), (71, (Value.tuple c293)), (74, undef), (71, (Value.tuple c293)), (73, undef), (71, (Value.tuple c293)), (72, undef), (71, (Value.tuple c293)), (71, v290), (70, v290), (69, v287), (68, v284), (67, v281)]) h k)
  (fun c603 => cPick (Value.tuple c603) (Go.Value.bool true) undef fun v632 =>
  g3_C7 call lf (updL σ [(88, v632), (87, undef), (80, (Value.tuple c603)), (86, undef), (80, (Value.tuple c603)), (85, undef), (80, (Value.tuple c603)), (84, undef), (80, (Value.tuple c603)), (83, undef), (80, (Value.tuple c603)), (82, undef), (80, (Value.tuple c603)), (81, undef), (80, (Value.tuple c603)), (80, v600), (79, v600), (78, undef), (71, (Value.tuple c293)), (77, undef), (71, (Value.tuple c293)), (76, undef), (71, (Value.tuple c293)), (75, undef), (71, (Value.tuple c293)), (74, undef), (71, (Value.tuple c293)), (73, undef), (71, (Value.tuple c293)), (72, undef), (71, (Value.tuple c293)), (71, v290), (70, v290), (69, v287), (68, v284), (67, v281)]) h k))
noncomputable def g3_C14 (call : Call) (lf : Nat) (σ : St) (h : AHeap) (k : KS) : Option Ans :=
  cIf (σ 135)
  (cStore 1 (σ 4) (Go.Value.bool false) h fun h659 =>
  k .ret σ h659)
  (cLoad1 (.int .i64) (σ 10) h fun v662 =>
  cNew [(.int .i64 (0))] 3 h fun v665 h666 =>
  cStore 1 v665 v662 h666 fun h669 =>
  cLoad1 (.int .i64) v665 h669 fun v672 =>
  cBin UE .add 3 v672 (Go.Value.int Go.IntKind.i64 1) fun v675 =>
  cStore 1 v665 v675 h669 fun h678 =>
  k .normal (updL σ [(63, v675), (62, v672), (10, v665), (136, v662)]) h678)
noncomputable def g3_C13 (call : Call) (lf : Nat) (σ : St) (h : AHeap) (k : KS) : Option Ans :=
  cLoad1 (.int .i64) (σ 10) h fun v635 =>
  cBin UE .eql 3 v635 (Go.Value.int Go.IntKind.i64 1) fun v638 =>
  gd v638
  (cLoad1 (.int .i64) (σ 7) h fun v644 =>
  cLoad1 (.slc) (σ 6) h fun v647 =>
  cLenS v647 fun v650 =>
  cBin UE .neq 3 v644 v650 fun v653 =>
  cPick (Value.bool true) v653 (Go.Value.bool false) fun v656 =>
  g3_C14 call lf (updL σ [(135, v656), (134, v653), (130, (Value.bool true)), (133, v650), (130, (Value.bool true)), (132, v647), (130, (Value.bool true)), (131, v644), (130, (Value.bool true)), (130, v638), (129, v638), (128, v635)]) h k)
  (cPick (Value.bool false) undef (Go.Value.bool false) fun v681 =>
  g3_C14 call lf (updL σ [(135, v681), (134, undef), (130, (Value.bool false)), (133, undef), (130, (Value.bool false)), (132, undef), (130, (Value.bool false)), (131, undef), (130, (Value.bool false)), (130, v638), (129, v638), (128, v635)]) h k)
  (fun c641 => cPick (Value.tuple c641) undef (Go.Value.bool false) fun v684 =>
  g3_C14 call lf (updL σ [(135, v684), (134, undef), (130, (Value.tuple c641)), (133, undef), (130, (Value.tuple c641)), (132, undef), (130, (Value.tuple c641)), (131, undef), (130, (Value.tuple c641)), (130, v638), (129, v638), (128, v635)]) h k)
noncomputable def g3_C15 (call : Call) (lf : Nat) (σ : St) (h : AHeap) (k : KS) : Option Ans :=
  cLoad1 (.int .i64) (σ 10) h fun v687 =>
  cNew [(.int .i64 (0))] 3 h fun v690 h691 =>
  cStore 1 v690 v687 h691 fun h694 =>
  cLoad1 (.int .i64) v690 h694 fun v697 =>
  cBin UE .add 3 v697 (Go.Value.int Go.IntKind.i64 1) fun v700 =>
  cStore 1 v690 v700 h694 fun h703 =>
  k .normal (updL σ [(63, v700), (62, v697), (10, v690), (136, v687)]) h703
noncomputable def g3_L4 (call : Call) (lf : Nat) (σ : St) (h : AHeap) (k : KS) : Option Ans :=
  cLoad1 (.int .i64) (σ 10) h fun v265 =>
  cBin UE .lss 3 v265 (Go.Value.int Go.IntKind.i64 2) fun v268 =>
  cIf v268
  (cStore 1 (σ 7) (Go.Value.int Go.IntKind.i64 0) h fun h271 =>
  cLoad1 (.any) (σ 5) h271 fun v274 =>
  rangeS (UE).it v274 [65, 66] (g3_R5 call lf) (g3_R6 call lf) lf (updL σ [(64, v274), (61, v268), (60, v265)]) h271 (hBlk 4 (hSeq (fun σ h => g3_C13 call lf σ h k) (hBlk 3 (hSeq (fun σ h => g3_C15 call lf σ h k) k)))))
  (k (.exit 2) (updL σ [(61, v268), (60, v265)]) h)
noncomputable def g3_C16 (call : Call) (lf : Nat) (σ : St) (h : AHeap) (k : KS) : Option Ans :=
  cCall call 4 [] [(false, [.bool])] h (fun v706 h707 =>
  cStore 1 (σ 4) v706 h707 fun h710 =>
  k .ret (updL σ [(137, v706)]) h710) (fun v704 h705 => k (.panic v704) σ h705)
noncomputable def g3_C3 (call : Call) (lf : Nat) (σ : St) (h : AHeap) (k : KS) : Option Ans :=
  cLoad1 (.int .i64) (σ 7) h fun v243 =>
  cLoad1 (.slc) (σ 6) h fun v246 =>
  cLenS v246 fun v249 =>
  cBin UE .neq 3 v243 v249 fun v252 =>
  cIf v252
  (cStore 1 (σ 4) (Go.Value.bool false) h fun h255 =>
  k .ret (updL σ [(59, v252), (58, v249), (57, v246), (56, v243)]) h255)
  (cNew [(.int .i64 (0))] 3 h fun v258 h259 =>
  cStore 1 v258 (Go.Value.int Go.IntKind.i64 0) h259 fun h262 =>
  loopS (g3_L4 call lf) lf (updL σ [(10, v258), (59, v252), (58, v249), (57, v246), (56, v243)]) h262 (hBlk 2 (hSeq (fun σ h => g3_C16 call lf σ h k) k)))
noncomputable def g3 (call : Call) (lf : Nat) (σ : St) (h : AHeap) (k : KS) : Option Ans :=
  cNew (σ 1).cells.toList 3 h fun v3 h4 =>
  cNew [(.bool false)] 4 h4 fun v7 h8 =>
  cLenStr (σ 0) fun v13 =>
  cBin UE .gtr 3 v13 (Go.Value.int Go.IntKind.i64 300) fun v16 =>
  cIf v16
  (cCall call 4 [] [(false, [.bool])] h8 (fun v19 h20 =>
  cStore 1 v7 v19 h20 fun h23 =>
  k .ret (updL σ [(19, v19), (18, v16), (17, v13), (16, (σ 0)), (4, v7), (3, v3)]) h23) (fun v17 h18 => k (.panic v17) (updL σ [(18, v16), (17, v13), (16, (σ 0)), (4, v7), (3, v3)]) h18))
  (cCall call 5 [(σ 0)] [(false, [.any])] h8 (fun v28 h29 =>
  cNew [.nilFunc] 24 h29 fun v32 h33 =>
  cStore 1 v32 v28 h33 fun h36 =>
  cLoad1 (.any) v32 h36 fun v39 =>
  cBin UE .eql 24 v39 Go.Value.nilFunc fun v42 =>
  cIf v42
  (cStore 1 v7 (Go.Value.bool false) h36 fun h45 =>
  k .ret (updL σ [(23, v42), (22, v39), (5, v32), (21, v28), (20, (σ 0)), (18, v16), (17, v13), (16, (σ 0)), (4, v7), (3, v3)]) h45)
  (cCall call 6 [(σ 0)] [(false, [.slc])] h36 (fun v50 h51 =>
  cNew [(.slice none 0 0)] 26 h51 fun v54 h55 =>
  cStore 1 v54 v50 h55 fun h58 =>
  cNew [(.int .i64 (0))] 3 h58 fun v61 h62 =>
  cStore 1 v61 (Go.Value.int Go.IntKind.i64 0) h62 fun h65 =>
  opRangeR UE idR h65 (fun v70 h71 =>
  loopS (g3_L1 call lf) lf (updL σ [(27, v70), (26, (σ 0)), (7, v61), (6, v54), (25, v50), (24, (σ 0)), (23, v42), (22, v39), (5, v32), (21, v28), (20, (σ 0)), (18, v16), (17, v13), (16, (σ 0)), (4, v7), (3, v3)]) h71 (hBlk 0 (hSeq (fun σ h => g3_C3 call lf σ h k) k))) 9 (.const (σ 0))) (fun v48 h49 => k (.panic v48) (updL σ [(24, (σ 0)), (23, v42), (22, v39), (5, v32), (21, v28), (20, (σ 0)), (18, v16), (17, v13), (16, (σ 0)), (4, v7), (3, v3)]) h49))) (fun v26 h27 => k (.panic v26) (updL σ [(20, (σ 0)), (18, v16), (17, v13), (16, (σ 0)), (4, v7), (3, v3)]) h27))
theorem g3_eq (call : Call) (lf : Nat) (args : List Value) (h : AHeap) : evB UE call lf 3 args h = g3 call lf (st0 args) h (finS UE [.cell 4 4]) := by kernel_rfl
theorem c3 (call : Call) (args : List Value) (h : AHeap) (K kp : K2) : evCall UE call 3 args h K kp = cCall call 3 args [(false, [.bool])] h K kp := by kernel_rfl
-- "kerf/utf.Each"
noncomputable def g5 (call : Call) (lf : Nat) (σ : St) (h : AHeap) (k : KS) : Option Ans :=
  cNew (σ 0).cells.toList 9 h fun v3 h4 =>
  k .ret (updL σ [(2, (Value.func (.func 15) #[] #[v3])), (3, (Value.func (.func 15) #[] #[v3])), (2, Go.Value.nilFunc), (1, v3)]) h4
theorem g5_eq (call : Call) (lf : Nat) (args : List Value) (h : AHeap) : evB UE call lf 5 args h = g5 call lf (st0 args) h (finS UE [.tmp 2]) := by kernel_rfl
theorem c5 (call : Call) (args : List Value) (h : AHeap) (K kp : K2) : evCall UE call 5 args h K kp = cCall call 5 args [(false, [.any])] h K kp := by kernel_rfl
-- "kerf/kerfref01.Marks"
noncomputable def g6_C2 (call : Call) (lf : Nat) (σ : St) (h : AHeap) (k : KS) : Option Ans :=
  cBin UE .add 3 (σ 4) (σ 6) fun v83 =>
  k .normal (updL σ [(4, v83), (33, v83), (32, (σ 6)), (31, (σ 4))]) h
noncomputable def g6_L1 (call : Call) (lf : Nat) (σ : St) (h : AHeap) (k : KS) : Option Ans :=
  cLenStr (σ 0) fun v13 =>
  cBin UE .lss 3 (σ 4) v13 fun v16 =>
  cIf v16
  (cSliceStr (σ 0) (some (σ 4)) none fun v23 =>
  cCall call 16 [v23] [(false, [.int .i32]), (false, [.int .i64])] h (fun v26 h27 =>
  cExtract v26 0 fun v32 =>
  cExtract v26 1 fun v35 =>
  cBin UE .eql 3 v35 (Go.Value.int Go.IntKind.i64 1) fun v52 =>
  gd v52
  (cBin UE .eql 21 v32 (Go.Value.int Go.IntKind.i32 65533) fun v60 =>
  cPick (Value.bool true) v60 (Go.Value.bool false) fun v63 =>
  cBuild [(0, 1, (σ 4)), (1, 1, v35), (2, 1, v32), (3, 1, v63)] [(.int .i64 (0)), (.int .i64 (0)), (.int .i32 (0)), (.bool false)] fun v66 =>
  cBuildS 29 1 [(0, 4, v66)] [(.int .i64 (0)), (.int .i64 (0)), (.int .i32 (0)), (.bool false)] h27 fun v69 h70 =>
  cAppend 29 4 24 (σ 3) v69 h70 fun v73 h74 =>
  g6_C2 call lf (updL σ [(3, v73), (30, v73), (29, v69), (28, v66), (27, v63), (26, v60), (24, (Value.bool true)), (25, v32), (24, (Value.bool true)), (24, v52), (23, v52), (22, v35), (21, v32), (20, v35), (19, (σ 4)), (18, (σ 3)), (6, v35), (5, v32), (17, v35), (16, v32), (11, v26), (15, v26), (14, v23), (13, (σ 4)), (12, (σ 0)), (10, v16), (9, v13), (8, (σ 0)), (7, (σ 4))]) h74 k)
  (cPick (Value.bool false) undef (Go.Value.bool false) fun v88 =>
  cBuild [(0, 1, (σ 4)), (1, 1, v35), (2, 1, v32), (3, 1, v88)] [(.int .i64 (0)), (.int .i64 (0)), (.int .i32 (0)), (.bool false)] fun v91 =>
  cBuildS 29 1 [(0, 4, v91)] [(.int .i64 (0)), (.int .i64 (0)), (.int .i32 (0)), (.bool false)] h27 fun v94 h95 =>
  cAppend 29 4 24 (σ 3) v94 h95 fun v98 h99 =>
  g6_C2 call lf (updL σ [(3, v98), (30, v98), (29, v94), (28, v91), (27, v88), (26, undef), (24, (Value.bool false)), (25, undef), (24, (Value.bool false)), (24, v52), (23, v52), (22, v35), (21, v32), (20, v35), (19, (σ 4)), (18, (σ 3)), (6, v35), (5, v32), (17, v35), (16, v32), (11, v26), (15, v26), (14, v23), (13, (σ 4)), (12, (σ 0)), (10, v16), (9, v13), (8, (σ 0)), (7, (σ 4))]) h99 k)
  (fun c55 => cPick (Value.tuple c55) undef (Go.Value.bool false) fun v104 =>
  cBuild [(0, 1, (σ 4)), (1, 1, v35), (2, 1, v32), (3, 1, v104)] [(.int .i64 (0)), (.int .i64 (0)), (.int .i32 (0)), (.bool false)] fun v107 =>
  cBuildS 29 1 [(0, 4, v107)] [(.int .i64 (0)), (.int .i64 (0)), (.int .i32 (0)), (.bool false)] h27 fun v110 h111 =>
  cAppend 29 4 24 (σ 3) v110 h111 fun v114 h115 =>
  g6_C2 call lf (updL σ [(3, v114), (30, v114), (29, v110), (28, v107), (27, v104), (26, undef), (24, (Value.tuple c55)), (25, undef), (24, (Value.tuple c55)), (24, v52), (23, v52), (22, v35), (21, v32), (20, v35), (19, (σ 4)), (18, (σ 3)), (6, v35), (5, v32), (17, v35), (16, v32), (11, v26), (15, v26), (14, v23), (13, (σ 4)), (12, (σ 0)), (10, v16), (9, v13), (8, (σ 0)), (7, (σ 4))]) h115 k)) (fun v24 h25 => k (.panic v24) (updL σ [(14, v23), (13, (σ 4)), (12, (σ 0)), (10, v16), (9, v13), (8, (σ 0)), (7, (σ 4))]) h25))
  (k (.exit 0) (updL σ [(10, v16), (9, v13), (8, (σ 0)), (7, (σ 4))]) h)
noncomputable def g6_C3 (call : Call) (lf : Nat) (σ : St) (h : AHeap) (k : KS) : Option Ans :=
  k .ret (updL σ [(2, (σ 3)), (34, (σ 3))]) h
noncomputable def g6 (call : Call) (lf : Nat) (σ : St) (h : AHeap) (k : KS) : Option Ans :=
  loopS (g6_L1 call lf) lf (updL σ [(4, (Go.Value.int Go.IntKind.i64 0)), (3, (Go.Value.slice none 0 0)), (2, (Go.Value.slice none 0 0))]) h (hBlk 0 (hSeq (fun σ h => g6_C3 call lf σ h k) k))
theorem g6_eq (call : Call) (lf : Nat) (args : List Value) (h : AHeap) : evB UE call lf 6 args h = g6 call lf (st0 args) h (finS UE [.tmp 2]) := by kernel_rfl
theorem c6 (call : Call) (args : List Value) (h : AHeap) (K kp : K2) : evCall UE call 6 args h K kp = cCall call 6 args [(false, [.slc])] h K kp := by kernel_rfl
-- "kerf/kerfref01.Decode"
noncomputable def g16_L2 (call : Call) (lf : Nat) (σ : St) (h : AHeap) (k : KS) : Option Ans :=
  cBin UE .lss 3 (σ 6) (σ 4) fun v61 =>
  cIf v61
  (cIdxStr (σ 0) (σ 6) fun v68 =>
  cBin UE .and 5 v68 (Go.Value.int Go.IntKind.u8 192) fun v71 =>
  cBin UE .neq 5 v71 (Go.Value.int Go.IntKind.u8 128) fun v74 =>
  cIf v74
  (k .ret (updL σ [(3, (Go.Value.int Go.IntKind.i64 1)), (2, (Go.Value.int Go.IntKind.i32 65533)), (33, v74), (32, v71), (31, v68), (30, (σ 6)), (29, (σ 0)), (26, v61), (25, (σ 4)), (24, (σ 6))]) h)
  (cBin UE .shl 21 (σ 5) (Go.Value.int Go.IntKind.u64 6) fun v83 =>
  cIdxStr (σ 0) (σ 6) fun v90 =>
  cBin UE .and 5 v90 (Go.Value.int Go.IntKind.u8 63) fun v93 =>
  opConvertR UE idR h (fun v96 h97 =>
  cBin UE .or 21 v83 v96 fun v100 =>
  cBin UE .add 3 (σ 6) (Go.Value.int Go.IntKind.i64 1) fun v107 =>
  k .normal (updL σ [(6, v107), (28, v107), (27, (σ 6)), (5, v100), (41, v100), (40, v96), (39, v93), (38, v90), (37, (σ 6)), (36, (σ 0)), (35, v83), (34, (σ 5)), (33, v74), (32, v71), (31, v68), (30, (σ 6)), (29, (σ 0)), (26, v61), (25, (σ 4)), (24, (σ 6))]) h97) 5 21 (.const v93)))
  (k (.exit 0) (updL σ [(26, v61), (25, (σ 4)), (24, (σ 6))]) h)
noncomputable def g16_C3 (call : Call) (lf : Nat) (σ : St) (h : AHeap) (k : KS) : Option Ans :=
  cCall call 23 [(σ 5)] [(false, [.int .i64])] h (fun v114 h115 =>
  cBin UE .neq 3 v114 (σ 4) fun v120 =>
  cIf v120
  (k .ret (updL σ [(3, (Go.Value.int Go.IntKind.i64 1)), (2, (Go.Value.int Go.IntKind.i32 65533)), (45, v120), (44, (σ 4)), (43, v114), (42, (σ 5))]) h115)
  (k .ret (updL σ [(3, (σ 4)), (2, (σ 5)), (47, (σ 4)), (46, (σ 5)), (45, v120), (44, (σ 4)), (43, v114), (42, (σ 5))]) h115)) (fun v112 h113 => k (.panic v112) (updL σ [(42, (σ 5))]) h113)
noncomputable def g16_C1 (call : Call) (lf : Nat) (σ : St) (h : AHeap) (k : KS) : Option Ans :=
  cIf (σ 23)
  (k .ret (updL σ [(3, (Go.Value.int Go.IntKind.i64 1)), (2, (Go.Value.int Go.IntKind.i32 65533))]) h)
  (loopS (g16_L2 call lf) lf (updL σ [(6, (Go.Value.int Go.IntKind.i64 1))]) h (hBlk 0 (hSeq (fun σ h => g16_C3 call lf σ h k) k)))
noncomputable def g16 (call : Call) (lf : Nat) (σ : St) (h : AHeap) (k : KS) : Option Ans :=
  cLenStr (σ 0) fun v9 =>
  cBin UE .eql 3 v9 (Go.Value.int Go.IntKind.i64 0) fun v12 =>
  cIf v12
  (k .ret (updL σ [(3, (Go.Value.int Go.IntKind.i64 0)), (2, (Go.Value.int Go.IntKind.i32 0)), (9, v12), (8, v9), (7, (σ 0)), (3, (Go.Value.int Go.IntKind.i64 0)), (2, (Go.Value.int Go.IntKind.i32 0))]) h)
  (cIdxStr (σ 0) (Go.Value.int Go.IntKind.i64 0) fun v21 =>
  cCall call 22 [v21] [(false, [.int .i64]), (false, [.int .i32])] h (fun v24 h25 =>
  cExtract v24 0 fun v30 =>
  cExtract v24 1 fun v33 =>
  cBin UE .eql 3 v30 (Go.Value.int Go.IntKind.i64 0) fun v42 =>
  gd v42
  (cPick (Value.bool true) (Go.Value.bool true) undef fun v48 =>
  g16_C1 call lf (updL σ [(23, v48), (22, undef), (18, (Value.bool true)), (21, undef), (18, (Value.bool true)), (20, undef), (18, (Value.bool true)), (19, undef), (18, (Value.bool true)), (18, v42), (17, v42), (16, v30), (5, v33), (4, v30), (15, v33), (14, v30), (10, v24), (13, v24), (12, v21), (11, (σ 0)), (9, v12), (8, v9), (7, (σ 0)), (3, (Go.Value.int Go.IntKind.i64 0)), (2, (Go.Value.int Go.IntKind.i32 0))]) h25 k)
  (cLenStr (σ 0) fun v139 =>
  cBin UE .gtr 3 v30 v139 fun v142 =>
  cPick (Value.bool false) (Go.Value.bool true) v142 fun v145 =>
  g16_C1 call lf (updL σ [(23, v145), (22, v142), (18, (Value.bool false)), (21, v139), (18, (Value.bool false)), (20, (σ 0)), (18, (Value.bool false)), (19, v30), (18, (Value.bool false)), (18, v42), (17, v42), (16, v30), (5, v33), (4, v30), (15, v33), (14, v30), (10, v24), (13, v24), (12, v21), (11, (σ 0)), (9, v12), (8, v9), (7, (σ 0)), (3, (Go.Value.int Go.IntKind.i64 0)), (2, (Go.Value.int Go.IntKind.i32 0))]) h25 k)
  (fun c45 => cPick (Value.tuple c45) (Go.Value.bool true) undef fun v148 =>
  g16_C1 call lf (updL σ [(23, v148), (22, undef), (18, (Value.tuple c45)), (21, undef), (18, (Value.tuple c45)), (20, undef), (18, (Value.tuple c45)), (19, undef), (18, (Value.tuple c45)), (18, v42), (17, v42), (16, v30), (5, v33), (4, v30), (15, v33), (14, v30), (10, v24), (13, v24), (12, v21), (11, (σ 0)), (9, v12), (8, v9), (7, (σ 0)), (3, (Go.Value.int Go.IntKind.i64 0)), (2, (Go.Value.int Go.IntKind.i32 0))]) h25 k)) (fun v22 h23 => k (.panic v22) (updL σ [(12, v21), (11, (σ 0)), (9, v12), (8, v9), (7, (σ 0)), (3, (Go.Value.int Go.IntKind.i64 0)), (2, (Go.Value.int Go.IntKind.i32 0))]) h23))
theorem g16_eq (call : Call) (lf : Nat) (args : List Value) (h : AHeap) : evB UE call lf 16 args h = g16 call lf (st0 args) h (finS UE [.tmp 2, .tmp 3]) := by kernel_rfl
theorem c16 (call : Call) (args : List Value) (h : AHeap) (K kp : K2) : evCall UE call 16 args h K kp = cCall call 16 args [(false, [.int .i32]), (false, [.int .i64])] h K kp := by kernel_rfl
-- "kerf/kerfref01.lead"
noncomputable def g22_C3 (call : Call) (lf : Nat) (σ : St) (h : AHeap) (k : KS) : Option Ans :=
  cIf (σ 31)
  (cBin UE .and 5 (σ 0) (Go.Value.int Go.IntKind.u8 7) fun v98 =>
  opConvertR UE idR h (fun v101 h102 =>
  k .ret (updL σ [(3, v101), (2, (Go.Value.int Go.IntKind.i64 4)), (34, v101), (33, v98), (32, (σ 0))]) h102) 5 21 (.const v98))
  (k .ret (updL σ [(3, (Go.Value.int Go.IntKind.i32 0)), (2, (Go.Value.int Go.IntKind.i64 0))]) h)
noncomputable def g22_C2 (call : Call) (lf : Nat) (σ : St) (h : AHeap) (k : KS) : Option Ans :=
  cIf (σ 22)
  (cBin UE .and 5 (σ 0) (Go.Value.int Go.IntKind.u8 15) fun v69 =>
  opConvertR UE idR h (fun v72 h73 =>
  k .ret (updL σ [(3, v72), (2, (Go.Value.int Go.IntKind.i64 3)), (25, v72), (24, v69), (23, (σ 0))]) h73) 5 21 (.const v69))
  (cBin UE .geq 5 (σ 0) (Go.Value.int Go.IntKind.u8 240) fun v82 =>
  gd v82
  (cBin UE .lss 5 (σ 0) (Go.Value.int Go.IntKind.u8 248) fun v90 =>
  cPick (Value.bool true) v90 (Go.Value.bool false) fun v93 =>
  g22_C3 call lf (updL σ [(31, v93), (30, v90), (28, (Value.bool true)), (29, (σ 0)), (28, (Value.bool true)), (28, v82), (27, v82), (26, (σ 0))]) h k)
  (cPick (Value.bool false) undef (Go.Value.bool false) fun v113 =>
  g22_C3 call lf (updL σ [(31, v113), (30, undef), (28, (Value.bool false)), (29, undef), (28, (Value.bool false)), (28, v82), (27, v82), (26, (σ 0))]) h k)
  (fun c85 => cPick (Value.tuple c85) undef (Go.Value.bool false) fun v116 =>
  g22_C3 call lf (updL σ [(31, v116), (30, undef), (28, (Value.tuple c85)), (29, undef), (28, (Value.tuple c85)), (28, v82), (27, v82), (26, (σ 0))]) h k))
noncomputable def g22_C1 (call : Call) (lf : Nat) (σ : St) (h : AHeap) (k : KS) : Option Ans :=
  cIf (σ 13)
  (cBin UE .and 5 (σ 0) (Go.Value.int Go.IntKind.u8 31) fun v40 =>
  opConvertR UE idR h (fun v43 h44 =>
  k .ret (updL σ [(3, v43), (2, (Go.Value.int Go.IntKind.i64 2)), (16, v43), (15, v40), (14, (σ 0))]) h44) 5 21 (.const v40))
  (cBin UE .geq 5 (σ 0) (Go.Value.int Go.IntKind.u8 224) fun v53 =>
  gd v53
  (cBin UE .lss 5 (σ 0) (Go.Value.int Go.IntKind.u8 240) fun v61 =>
  cPick (Value.bool true) v61 (Go.Value.bool false) fun v64 =>
  g22_C2 call lf (updL σ [(22, v64), (21, v61), (19, (Value.bool true)), (20, (σ 0)), (19, (Value.bool true)), (19, v53), (18, v53), (17, (σ 0))]) h k)
  (cPick (Value.bool false) undef (Go.Value.bool false) fun v119 =>
  g22_C2 call lf (updL σ [(22, v119), (21, undef), (19, (Value.bool false)), (20, undef), (19, (Value.bool false)), (19, v53), (18, v53), (17, (σ 0))]) h k)
  (fun c56 => cPick (Value.tuple c56) undef (Go.Value.bool false) fun v122 =>
  g22_C2 call lf (updL σ [(22, v122), (21, undef), (19, (Value.tuple c56)), (20, undef), (19, (Value.tuple c56)), (19, v53), (18, v53), (17, (σ 0))]) h k))
noncomputable def g22 (call : Call) (lf : Nat) (σ : St) (h : AHeap) (k : KS) : Option Ans :=
  cBin UE .lss 5 (σ 0) (Go.Value.int Go.IntKind.u8 128) fun v9 =>
  cIf v9
  (opConvertR UE idR h (fun v14 h15 =>
  k .ret (updL σ [(3, v14), (2, (Go.Value.int Go.IntKind.i64 1)), (7, v14), (6, (σ 0)), (5, v9), (4, (σ 0)), (3, (Go.Value.int Go.IntKind.i32 0)), (2, (Go.Value.int Go.IntKind.i64 0))]) h15) 5 21 (.const (σ 0)))
  (cBin UE .geq 5 (σ 0) (Go.Value.int Go.IntKind.u8 192) fun v24 =>
  gd v24
  (cBin UE .lss 5 (σ 0) (Go.Value.int Go.IntKind.u8 224) fun v32 =>
  cPick (Value.bool true) v32 (Go.Value.bool false) fun v35 =>
  g22_C1 call lf (updL σ [(13, v35), (12, v32), (10, (Value.bool true)), (11, (σ 0)), (10, (Value.bool true)), (10, v24), (9, v24), (8, (σ 0)), (5, v9), (4, (σ 0)), (3, (Go.Value.int Go.IntKind.i32 0)), (2, (Go.Value.int Go.IntKind.i64 0))]) h k)
  (cPick (Value.bool false) undef (Go.Value.bool false) fun v125 =>
  g22_C1 call lf (updL σ [(13, v125), (12, undef), (10, (Value.bool false)), (11, undef), (10, (Value.bool false)), (10, v24), (9, v24), (8, (σ 0)), (5, v9), (4, (σ 0)), (3, (Go.Value.int Go.IntKind.i32 0)), (2, (Go.Value.int Go.IntKind.i64 0))]) h k)
  (fun c27 => cPick (Value.tuple c27) undef (Go.Value.bool false) fun v128 =>
  g22_C1 call lf (updL σ [(13, v128), (12, undef), (10, (Value.tuple c27)), (11, undef), (10, (Value.tuple c27)), (10, v24), (9, v24), (8, (σ 0)), (5, v9), (4, (σ 0)), (3, (Go.Value.int Go.IntKind.i32 0)), (2, (Go.Value.int Go.IntKind.i64 0))]) h k))
theorem g22_eq (call : Call) (lf : Nat) (args : List Value) (h : AHeap) : evB UE call lf 22 args h = g22 call lf (st0 args) h (finS UE [.tmp 2, .tmp 3]) := by kernel_rfl
theorem c22 (call : Call) (args : List Value) (h : AHeap) (K kp : K2) : evCall UE call 22 args h K kp = cCall call 22 args [(false, [.int .i64]), (false, [.int .i32])] h K kp := by kernel_rfl
-- "kerf/kerfref01.Width"
noncomputable def g23 (call : Call) (lf : Nat) (σ : St) (h : AHeap) (k : KS) : Option Ans :=
  cCall call 28 [(σ 0)] [(false, [.bool])] h (fun v7 h8 =>
  cUn .not v7 fun v11 =>
  cIf v11
  (k .ret (updL σ [(2, (Go.Value.int Go.IntKind.i64 0)), (5, v11), (4, v7), (3, (σ 0)), (2, (Go.Value.int Go.IntKind.i64 0))]) h8)
  (cBin UE .lss 21 (σ 0) (Go.Value.int Go.IntKind.i32 128) fun v18 =>
  cIf v18
  (k .ret (updL σ [(2, (Go.Value.int Go.IntKind.i64 1)), (7, v18), (6, (σ 0)), (5, v11), (4, v7), (3, (σ 0)), (2, (Go.Value.int Go.IntKind.i64 0))]) h8)
  (cBin UE .lss 21 (σ 0) (Go.Value.int Go.IntKind.i32 2048) fun v25 =>
  cIf v25
  (k .ret (updL σ [(2, (Go.Value.int Go.IntKind.i64 2)), (9, v25), (8, (σ 0)), (7, v18), (6, (σ 0)), (5, v11), (4, v7), (3, (σ 0)), (2, (Go.Value.int Go.IntKind.i64 0))]) h8)
  (cBin UE .lss 21 (σ 0) (Go.Value.int Go.IntKind.i32 65536) fun v32 =>
  cIf v32
  (k .ret (updL σ [(2, (Go.Value.int Go.IntKind.i64 3)), (11, v32), (10, (σ 0)), (9, v25), (8, (σ 0)), (7, v18), (6, (σ 0)), (5, v11), (4, v7), (3, (σ 0)), (2, (Go.Value.int Go.IntKind.i64 0))]) h8)
  (k .ret (updL σ [(2, (Go.Value.int Go.IntKind.i64 4)), (11, v32), (10, (σ 0)), (9, v25), (8, (σ 0)), (7, v18), (6, (σ 0)), (5, v11), (4, v7), (3, (σ 0)), (2, (Go.Value.int Go.IntKind.i64 0))]) h8))))) (fun v5 h6 => k (.panic v5) (updL σ [(3, (σ 0)), (2, (Go.Value.int Go.IntKind.i64 0))]) h6)
theorem g23_eq (call : Call) (lf : Nat) (args : List Value) (h : AHeap) : evB UE call lf 23 args h = g23 call lf (st0 args) h (finS UE [.tmp 2]) := by kernel_rfl
theorem c23 (call : Call) (args : List Value) (h : AHeap) (K kp : K2) : evCall UE call 23 args h K kp = cCall call 23 args [(false, [.int .i64])] h K kp := by kernel_rfl
-- "kerf/kerfref01.Rune"
noncomputable def g28_C1 (call : Call) (lf : Nat) (σ : St) (h : AHeap) (k : KS) : Option Ans :=
  k .ret σ h
noncomputable def g28 (call : Call) (lf : Nat) (σ : St) (h : AHeap) (k : KS) : Option Ans :=
  cBin UE .geq 21 (σ 0) (Go.Value.int Go.IntKind.i32 0) fun v7 =>
  gd v7
  (cBin UE .leq 21 (σ 0) (Go.Value.int Go.IntKind.i32 1114111) fun v15 =>
  cPick (Value.bool true) v15 (Go.Value.bool false) fun v18 =>
  gd v18
  (cBin UE .lss 21 (σ 0) (Go.Value.int Go.IntKind.i32 55296) fun v26 =>
  gd v26
  (cPick (Value.bool true) (Go.Value.bool true) undef fun v32 =>
  cPick (Value.bool true) v32 (Go.Value.bool false) fun v35 =>
  g28_C1 call lf (updL σ [(2, v35), (16, v35), (15, v32), (9, (Value.bool true)), (14, undef), (12, (Value.bool true)), (13, undef), (12, (Value.bool true)), (12, v26), (9, (Value.bool true)), (11, v26), (9, (Value.bool true)), (10, (σ 0)), (9, (Value.bool true)), (9, v18), (8, v18), (7, v15), (5, (Value.bool true)), (6, (σ 0)), (5, (Value.bool true)), (5, v7), (4, v7), (3, (σ 0)), (2, (Go.Value.bool false))]) h k)
  (cBin UE .gtr 21 (σ 0) (Go.Value.int Go.IntKind.i32 57343) fun v42 =>
  cPick (Value.bool false) (Go.Value.bool true) v42 fun v45 =>
  cPick (Value.bool true) v45 (Go.Value.bool false) fun v48 =>
  g28_C1 call lf (updL σ [(2, v48), (16, v48), (15, v45), (9, (Value.bool true)), (14, v42), (12, (Value.bool false)), (13, (σ 0)), (12, (Value.bool false)), (12, v26), (9, (Value.bool true)), (11, v26), (9, (Value.bool true)), (10, (σ 0)), (9, (Value.bool true)), (9, v18), (8, v18), (7, v15), (5, (Value.bool true)), (6, (σ 0)), (5, (Value.bool true)), (5, v7), (4, v7), (3, (σ 0)), (2, (Go.Value.bool false))]) h k)
  (fun c29 => cPick (Value.tuple c29) (Go.Value.bool true) undef fun v53 =>
  cPick (Value.bool true) v53 (Go.Value.bool false) fun v56 =>
  g28_C1 call lf (updL σ [(2, v56), (16, v56), (15, v53), (9, (Value.bool true)), (14, undef), (12, (Value.tuple c29)), (13, undef), (12, (Value.tuple c29)), (12, v26), (9, (Value.bool true)), (11, v26), (9, (Value.bool true)), (10, (σ 0)), (9, (Value.bool true)), (9, v18), (8, v18), (7, v15), (5, (Value.bool true)), (6, (σ 0)), (5, (Value.bool true)), (5, v7), (4, v7), (3, (σ 0)), (2, (Go.Value.bool false))]) h k))
  (gd undef
  (cPick (Value.bool false) undef (Go.Value.bool false) fun v62 =>
  g28_C1 call lf (updL σ [(2, v62), (16, v62), (15, undef), (9, (Value.bool false)), (14, undef), (12, (Value.bool true)), (13, undef), (12, (Value.bool true)), (12, undef), (9, (Value.bool false)), (11, undef), (9, (Value.bool false)), (10, undef), (9, (Value.bool false)), (9, v18), (8, v18), (7, v15), (5, (Value.bool true)), (6, (σ 0)), (5, (Value.bool true)), (5, v7), (4, v7), (3, (σ 0)), (2, (Go.Value.bool false))]) h k)
  (cBin UE .gtr 21 (σ 0) (Go.Value.int Go.IntKind.i32 57343) fun v69 =>
  cPick (Value.bool false) undef (Go.Value.bool false) fun v72 =>
  g28_C1 call lf (updL σ [(2, v72), (16, v72), (15, undef), (9, (Value.bool false)), (14, v69), (12, (Value.bool false)), (13, (σ 0)), (12, (Value.bool false)), (12, undef), (9, (Value.bool false)), (11, undef), (9, (Value.bool false)), (10, undef), (9, (Value.bool false)), (9, v18), (8, v18), (7, v15), (5, (Value.bool true)), (6, (σ 0)), (5, (Value.bool true)), (5, v7), (4, v7), (3, (σ 0)), (2, (Go.Value.bool false))]) h k)
  (fun c59 => cPick (Value.bool false) undef (Go.Value.bool false) fun v77 =>
  g28_C1 call lf (updL σ [(2, v77), (16, v77), (15, undef), (9, (Value.bool false)), (14, undef), (12, (Value.tuple c59)), (13, undef), (12, (Value.tuple c59)), (12, undef), (9, (Value.bool false)), (11, undef), (9, (Value.bool false)), (10, undef), (9, (Value.bool false)), (9, v18), (8, v18), (7, v15), (5, (Value.bool true)), (6, (σ 0)), (5, (Value.bool true)), (5, v7), (4, v7), (3, (σ 0)), (2, (Go.Value.bool false))]) h k))
  (fun c21 => gd undef
  (cPick (Value.tuple c21) undef (Go.Value.bool false) fun v83 =>
  g28_C1 call lf (updL σ [(2, v83), (16, v83), (15, undef), (9, (Value.tuple c21)), (14, undef), (12, (Value.bool true)), (13, undef), (12, (Value.bool true)), (12, undef), (9, (Value.tuple c21)), (11, undef), (9, (Value.tuple c21)), (10, undef), (9, (Value.tuple c21)), (9, v18), (8, v18), (7, v15), (5, (Value.bool true)), (6, (σ 0)), (5, (Value.bool true)), (5, v7), (4, v7), (3, (σ 0)), (2, (Go.Value.bool false))]) h k)
  (cBin UE .gtr 21 (σ 0) (Go.Value.int Go.IntKind.i32 57343) fun v90 =>
  cPick (Value.tuple c21) undef (Go.Value.bool false) fun v93 =>
  g28_C1 call lf (updL σ [(2, v93), (16, v93), (15, undef), (9, (Value.tuple c21)), (14, v90), (12, (Value.bool false)), (13, (σ 0)), (12, (Value.bool false)), (12, undef), (9, (Value.tuple c21)), (11, undef), (9, (Value.tuple c21)), (10, undef), (9, (Value.tuple c21)), (9, v18), (8, v18), (7, v15), (5, (Value.bool true)), (6, (σ 0)), (5, (Value.bool true)), (5, v7), (4, v7), (3, (σ 0)), (2, (Go.Value.bool false))]) h k)
  (fun c80 => cPick (Value.tuple c21) undef (Go.Value.bool false) fun v98 =>
  g28_C1 call lf (updL σ [(2, v98), (16, v98), (15, undef), (9, (Value.tuple c21)), (14, undef), (12, (Value.tuple c80)), (13, undef), (12, (Value.tuple c80)), (12, undef), (9, (Value.tuple c21)), (11, undef), (9, (Value.tuple c21)), (10, undef), (9, (Value.tuple c21)), (9, v18), (8, v18), (7, v15), (5, (Value.bool true)), (6, (σ 0)), (5, (Value.bool true)), (5, v7), (4, v7), (3, (σ 0)), (2, (Go.Value.bool false))]) h k)))
  (cPick (Value.bool false) undef (Go.Value.bool false) fun v103 =>
  gd v103
  (cBin UE .lss 21 (σ 0) (Go.Value.int Go.IntKind.i32 55296) fun v111 =>
  gd v111
  (cPick (Value.bool true) (Go.Value.bool true) undef fun v117 =>
  cPick (Value.bool true) v117 (Go.Value.bool false) fun v120 =>
  g28_C1 call lf (updL σ [(2, v120), (16, v120), (15, v117), (9, (Value.bool true)), (14, undef), (12, (Value.bool true)), (13, undef), (12, (Value.bool true)), (12, v111), (9, (Value.bool true)), (11, v111), (9, (Value.bool true)), (10, (σ 0)), (9, (Value.bool true)), (9, v103), (8, v103), (7, undef), (5, (Value.bool false)), (6, undef), (5, (Value.bool false)), (5, v7), (4, v7), (3, (σ 0)), (2, (Go.Value.bool false))]) h k)
  (cBin UE .gtr 21 (σ 0) (Go.Value.int Go.IntKind.i32 57343) fun v127 =>
  cPick (Value.bool false) (Go.Value.bool true) v127 fun v130 =>
  cPick (Value.bool true) v130 (Go.Value.bool false) fun v133 =>
  g28_C1 call lf (updL σ [(2, v133), (16, v133), (15, v130), (9, (Value.bool true)), (14, v127), (12, (Value.bool false)), (13, (σ 0)), (12, (Value.bool false)), (12, v111), (9, (Value.bool true)), (11, v111), (9, (Value.bool true)), (10, (σ 0)), (9, (Value.bool true)), (9, v103), (8, v103), (7, undef), (5, (Value.bool false)), (6, undef), (5, (Value.bool false)), (5, v7), (4, v7), (3, (σ 0)), (2, (Go.Value.bool false))]) h k)
  (fun c114 => cPick (Value.tuple c114) (Go.Value.bool true) undef fun v138 =>
  cPick (Value.bool true) v138 (Go.Value.bool false) fun v141 =>
  g28_C1 call lf (updL σ [(2, v141), (16, v141), (15, v138), (9, (Value.bool true)), (14, undef), (12, (Value.tuple c114)), (13, undef), (12, (Value.tuple c114)), (12, v111), (9, (Value.bool true)), (11, v111), (9, (Value.bool true)), (10, (σ 0)), (9, (Value.bool true)), (9, v103), (8, v103), (7, undef), (5, (Value.bool false)), (6, undef), (5, (Value.bool false)), (5, v7), (4, v7), (3, (σ 0)), (2, (Go.Value.bool false))]) h k))
  (gd undef
  (cPick (Value.bool false) undef (Go.Value.bool false) fun v147 =>
  g28_C1 call lf (updL σ [(2, v147), (16, v147), (15, undef), (9, (Value.bool false)), (14, undef), (12, (Value.bool true)), (13, undef), (12, (Value.bool true)), (12, undef), (9, (Value.bool false)), (11, undef), (9, (Value.bool false)), (10, undef), (9, (Value.bool false)), (9, v103), (8, v103), (7, undef), (5, (Value.bool false)), (6, undef), (5, (Value.bool false)), (5, v7), (4, v7), (3, (σ 0)), (2, (Go.Value.bool false))]) h k)
  (cBin UE .gtr 21 (σ 0) (Go.Value.int Go.IntKind.i32 57343) fun v154 =>
  cPick (Value.bool false) undef (Go.Value.bool false) fun v157 =>
  g28_C1 call lf (updL σ [(2, v157), (16, v157), (15, undef), (9, (Value.bool false)), (14, v154), (12, (Value.bool false)), (13, (σ 0)), (12, (Value.bool false)), (12, undef), (9, (Value.bool false)), (11, undef), (9, (Value.bool false)), (10, undef), (9, (Value.bool false)), (9, v103), (8, v103), (7, undef), (5, (Value.bool false)), (6, undef), (5, (Value.bool false)), (5, v7), (4, v7), (3, (σ 0)), (2, (Go.Value.bool false))]) h k)
  (fun c144 => cPick (Value.bool false) undef (Go.Value.bool false) fun v162 =>
  g28_C1 call lf (updL σ [(2, v162), (16, v162), (15, undef), (9, (Value.bool false)), (14, undef), (12, (Value.tuple c144)), (13, undef), (12, (Value.tuple c144)), (12, undef), (9, (Value.bool false)), (11, undef), (9, (Value.bool false)), (10, undef), (9, (Value.bool false)), (9, v103), (8, v103), (7, undef), (5, (Value.bool false)), (6, undef), (5, (Value.bool false)), (5, v7), (4, v7), (3, (σ 0)), (2, (Go.Value.bool false))]) h k))
  (fun c106 => gd undef
  (cPick (Value.tuple c106) undef (Go.Value.bool false) fun v168 =>
  g28_C1 call lf (updL σ [(2, v168), (16, v168), (15, undef), (9, (Value.tuple c106)), (14, undef), (12, (Value.bool true)), (13, undef), (12, (Value.bool true)), (12, undef), (9, (Value.tuple c106)), (11, undef), (9, (Value.tuple c106)), (10, undef), (9, (Value.tuple c106)), (9, v103), (8, v103), (7, undef), (5, (Value.bool false)), (6, undef), (5, (Value.bool false)), (5, v7), (4, v7), (3, (σ 0)), (2, (Go.Value.bool false))]) h k)
  (cBin UE .gtr 21 (σ 0) (Go.Value.int Go.IntKind.i32 57343) fun v175 =>
  cPick (Value.tuple c106) undef (Go.Value.bool false) fun v178 =>
  g28_C1 call lf (updL σ [(2, v178), (16, v178), (15, undef), (9, (Value.tuple c106)), (14, v175), (12, (Value.bool false)), (13, (σ 0)), (12, (Value.bool false)), (12, undef), (9, (Value.tuple c106)), (11, undef), (9, (Value.tuple c106)), (10, undef), (9, (Value.tuple c106)), (9, v103), (8, v103), (7, undef), (5, (Value.bool false)), (6, undef), (5, (Value.bool false)), (5, v7), (4, v7), (3, (σ 0)), (2, (Go.Value.bool false))]) h k)
  (fun c165 => cPick (Value.tuple c106) undef (Go.Value.bool false) fun v183 =>
  g28_C1 call lf (updL σ [(2, v183), (16, v183), (15, undef), (9, (Value.tuple c106)), (14, undef), (12, (Value.tuple c165)), (13, undef), (12, (Value.tuple c165)), (12, undef), (9, (Value.tuple c106)), (11, undef), (9, (Value.tuple c106)), (10, undef), (9, (Value.tuple c106)), (9, v103), (8, v103), (7, undef), (5, (Value.bool false)), (6, undef), (5, (Value.bool false)), (5, v7), (4, v7), (3, (σ 0)), (2, (Go.Value.bool false))]) h k)))
  (fun c10 => cPick (Value.tuple c10) undef (Go.Value.bool false) fun v188 =>
  gd v188
  (cBin UE .lss 21 (σ 0) (Go.Value.int Go.IntKind.i32 55296) fun v196 =>
  gd v196
  (cPick (Value.bool true) (Go.Value.bool true) undef fun v202 =>
  cPick (Value.bool true) v202 (Go.Value.bool false) fun v205 =>
  g28_C1 call lf (updL σ [(2, v205), (16, v205), (15, v202), (9, (Value.bool true)), (14, undef), (12, (Value.bool true)), (13, undef), (12, (Value.bool true)), (12, v196), (9, (Value.bool true)), (11, v196), (9, (Value.bool true)), (10, (σ 0)), (9, (Value.bool true)), (9, v188), (8, v188), (7, undef), (5, (Value.tuple c10)), (6, undef), (5, (Value.tuple c10)), (5, v7), (4, v7), (3, (σ 0)), (2, (Go.Value.bool false))]) h k)
  (cBin UE .gtr 21 (σ 0) (Go.Value.int Go.IntKind.i32 57343) fun v212 =>
  cPick (Value.bool false) (Go.Value.bool true) v212 fun v215 =>
  cPick (Value.bool true) v215 (Go.Value.bool false) fun v218 =>
  g28_C1 call lf (updL σ [(2, v218), (16, v218), (15, v215), (9, (Value.bool true)), (14, v212), (12, (Value.bool false)), (13, (σ 0)), (12, (Value.bool false)), (12, v196), (9, (Value.bool true)), (11, v196), (9, (Value.bool true)), (10, (σ 0)), (9, (Value.bool true)), (9, v188), (8, v188), (7, undef), (5, (Value.tuple c10)), (6, undef), (5, (Value.tuple c10)), (5, v7), (4, v7), (3, (σ 0)), (2, (Go.Value.bool false))]) h k)
  (fun c199 => cPick (Value.tuple c199) (Go.Value.bool true) undef fun v223 =>
  cPick (Value.bool true) v223 (Go.Value.bool false) fun v226 =>
  g28_C1 call lf (updL σ [(2, v226), (16, v226), (15, v223), (9, (Value.bool true)), (14, undef), (12, (Value.tuple c199)), (13, undef), (12, (Value.tuple c199)), (12, v196), (9, (Value.bool true)), (11, v196), (9, (Value.bool true)), (10, (σ 0)), (9, (Value.bool true)), (9, v188), (8, v188), (7, undef), (5, (Value.tuple c10)), (6, undef), (5, (Value.tuple c10)), (5, v7), (4, v7), (3, (σ 0)), (2, (Go.Value.bool false))]) h k))
  (gd undef
  (cPick (Value.bool false) undef (Go.Value.bool false) fun v232 =>
  g28_C1 call lf (updL σ [(2, v232), (16, v232), (15, undef), (9, (Value.bool false)), (14, undef), (12, (Value.bool true)), (13, undef), (12, (Value.bool true)), (12, undef), (9, (Value.bool false)), (11, undef), (9, (Value.bool false)), (10, undef), (9, (Value.bool false)), (9, v188), (8, v188), (7, undef), (5, (Value.tuple c10)), (6, undef), (5, (Value.tuple c10)), (5, v7), (4, v7), (3, (σ 0)), (2, (Go.Value.bool false))]) h k)
  (cBin UE .gtr 21 (σ 0) (Go.Value.int Go.IntKind.i32 57343) fun v239 =>
  cPick (Value.bool false) undef (Go.Value.bool false) fun v242 =>
  g28_C1 call lf (updL σ [(2, v242), (16, v242), (15, undef), (9, (Value.bool false)), (14, v239), (12, (Value.bool false)), (13, (σ 0)), (12, (Value.bool false)), (12, undef), (9, (Value.bool false)), (11, undef), (9, (Value.bool false)), (10, undef), (9, (Value.bool false)), (9, v188), (8, v188), (7, undef), (5, (Value.tuple c10)), (6, undef), (5, (Value.tuple c10)), (5, v7), (4, v7), (3, (σ 0)), (2, (Go.Value.bool false))]) h k)
  (fun c229 => cPick (Value.bool false) undef (Go.Value.bool false) fun v247 =>
  g28_C1 call lf (updL σ [(2, v247), (16, v247), (15, undef), (9, (Value.bool false)), (14, undef), (12, (Value.tuple c229)), (13, undef), (12, (Value.tuple c229)), (12, undef), (9, (Value.bool false)), (11, undef), (9, (Value.bool false)), (10, undef), (9, (Value.bool false)), (9, v188), (8, v188), (7, undef), (5, (Value.tuple c10)), (6, undef), (5, (Value.tuple c10)), (5, v7), (4, v7), (3, (σ 0)), (2, (Go.Value.bool false))]) h k))
  (fun c191 => gd undef
  (cPick (Value.tuple c191) undef (Go.Value.bool false) fun v253 =>
  g28_C1 call lf (updL σ [(2, v253), (16, v253), (15, undef), (9, (Value.tuple c191)), (14, undef), (12, (Value.bool true)), (13, undef), (12, (Value.bool true)), (12, undef), (9, (Value.tuple c191)), (11, undef), (9, (Value.tuple c191)), (10, undef), (9, (Value.tuple c191)), (9, v188), (8, v188), (7, undef), (5, (Value.tuple c10)), (6, undef), (5, (Value.tuple c10)), (5, v7), (4, v7), (3, (σ 0)), (2, (Go.Value.bool false))]) h k)
  (cBin UE .gtr 21 (σ 0) (Go.Value.int Go.IntKind.i32 57343) fun v260 =>
  cPick (Value.tuple c191) undef (Go.Value.bool false) fun v263 =>
  g28_C1 call lf (updL σ [(2, v263), (16, v263), (15, undef), (9, (Value.tuple c191)), (14, v260), (12, (Value.bool false)), (13, (σ 0)), (12, (Value.bool false)), (12, undef), (9, (Value.tuple c191)), (11, undef), (9, (Value.tuple c191)), (10, undef), (9, (Value.tuple c191)), (9, v188), (8, v188), (7, undef), (5, (Value.tuple c10)), (6, undef), (5, (Value.tuple c10)), (5, v7), (4, v7), (3, (σ 0)), (2, (Go.Value.bool false))]) h k)
  (fun c250 => cPick (Value.tuple c191) undef (Go.Value.bool false) fun v268 =>
  g28_C1 call lf (updL σ [(2, v268), (16, v268), (15, undef), (9, (Value.tuple c191)), (14, undef), (12, (Value.tuple c250)), (13, undef), (12, (Value.tuple c250)), (12, undef), (9, (Value.tuple c191)), (11, undef), (9, (Value.tuple c191)), (10, undef), (9, (Value.tuple c191)), (9, v188), (8, v188), (7, undef), (5, (Value.tuple c10)), (6, undef), (5, (Value.tuple c10)), (5, v7), (4, v7), (3, (σ 0)), (2, (Go.Value.bool false))]) h k)))
theorem g28_eq (call : Call) (lf : Nat) (args : List Value) (h : AHeap) : evB UE call lf 28 args h = g28 call lf (st0 args) h (finS UE [.tmp 2]) := by kernel_rfl
theorem c28 (call : Call) (args : List Value) (h : AHeap) (K kp : K2) : evCall UE call 28 args h K kp = cCall call 28 args [(false, [.bool])] h K kp := by kernel_rfl
end Go.Amb
