/- Part of the proof by the abstract machine: no claim of its own. -/
import Derived.Test.YtnfncnchbogncaaE4
import Derived.KernelRfl
set_option linter.unusedSimpArgs false
set_option linter.unusedVariables false
set_option linter.unnecessarySimpa false
set_option linter.unusedSectionVars false
set_option linter.unusedVariables false
set_option maxRecDepth 100000
namespace Go.Amb
open Go.Proofs
-- "kerf/nfa.Of"
noncomputable def g28 (call : Call) (lf : Nat) (σ : St) (h : AHeap) (k : KS) : Option Ans :=
  cNew (σ 0).cells.toList 64 h fun v3 h4 =>
  cNew [(.slice none 0 0), (.int .i64 (0)), (.int .i64 (0))] 67 h4 fun v7 h8 =>
  cLoadA [.int .i64, .slc, .slc] v3 h8 fun v13 =>
  cCall call 55 [v13, (Go.Value.int Go.IntKind.i64 64)] [(false, [.int .i64])] h8 (fun v16 h17 =>
  cBin EK .neq 37 v16 (Go.Value.int Go.IntKind.i64 0) fun v24 =>
  cIf v24
  (cBuild [] [(.slice none 0 0), (.int .i64 (0)), (.int .i64 (0))] fun v27 =>
  cStore 3 v7 v27 h17 fun h32 =>
  k .ret (updL σ [(3, v16), (17, v16), (16, v27), (15, v24), (14, v16), (4, v16), (13, v16), (12, v13), (3, (Go.Value.int Go.IntKind.i64 0)), (2, v7), (1, v3)]) h32)
  (cNew [(.slice none 0 0), (.int .i64 (0)), (.int .i64 (0))] 67 h17 fun v37 h38 =>
  cNew [.nilFunc] 58 h38 fun v43 h44 =>
  cStore 1 v43 (Value.func (.func 56) #[] #[v37]) h44 fun h47 =>
  cNew [.nilFunc] 103 h47 fun v52 h53 =>
  cStore 1 v52 (Value.func (.func 57) #[] #[v37]) h53 fun h56 =>
  cNew [.nilFunc] 104 h56 fun v59 h60 =>
  cNew [.nilFunc] 104 h60 fun v65 h66 =>
  cStore 1 v65 (Value.func (.func 58) #[] #[v43, v59, v52]) h66 fun h69 =>
  cNew [.nilFunc] 104 h69 fun v74 h75 =>
  cStore 1 v74 (Value.func (.func 59) #[] #[v43, v59, v52]) h75 fun h78 =>
  cNew [.nilFunc] 104 h78 fun v83 h84 =>
  cStore 1 v83 (Value.func (.func 60) #[] #[v59, v52]) h84 fun h87 =>
  cStore 1 v59 (Value.func (.func 61) #[] #[v83, v74, v65, v43, v52, v37]) h87 fun h92 =>
  cLoad1 (.any) v59 h92 fun v95 =>
  cLoadA [.int .i64, .slc, .slc] v3 h92 fun v98 =>
  cCallV EK call v95 [v98] h92 (fun v101 h102 =>
  cExtract v101 0 fun v107 =>
  cExtract v101 1 fun v110 =>
  cFieldAddr 1 v37 fun v113 =>
  cStore 1 v113 v107 h102 fun h116 =>
  cFieldAddr 2 v37 fun v119 =>
  cStore 1 v119 v110 h116 fun h122 =>
  cLoadA [.slc, .int .i64, .int .i64] v37 h122 fun v125 =>
  cStore 3 v7 v125 h122 fun h128 =>
  k .ret (updL σ [(3, (Go.Value.int Go.IntKind.i64 0)), (32, v125), (31, v119), (30, v113), (29, v110), (28, v107), (24, v101), (27, v101), (26, v98), (25, v95), (23, (Value.func (.func 61) #[] #[v83, v74, v65, v43, v52, v37])), (11, v83), (22, (Value.func (.func 60) #[] #[v59, v52])), (10, v74), (21, (Value.func (.func 59) #[] #[v43, v59, v52])), (9, v65), (20, (Value.func (.func 58) #[] #[v43, v59, v52])), (8, v59), (7, v52), (19, (Value.func (.func 57) #[] #[v37])), (6, v43), (18, (Value.func (.func 56) #[] #[v37])), (5, v37), (15, v24), (14, v16), (4, v16), (13, v16), (12, v13), (3, (Go.Value.int Go.IntKind.i64 0)), (2, v7), (1, v3)]) h128) (fun v99 h100 => k (.panic v99) (updL σ [(26, v98), (25, v95), (23, (Value.func (.func 61) #[] #[v83, v74, v65, v43, v52, v37])), (11, v83), (22, (Value.func (.func 60) #[] #[v59, v52])), (10, v74), (21, (Value.func (.func 59) #[] #[v43, v59, v52])), (9, v65), (20, (Value.func (.func 58) #[] #[v43, v59, v52])), (8, v59), (7, v52), (19, (Value.func (.func 57) #[] #[v37])), (6, v43), (18, (Value.func (.func 56) #[] #[v37])), (5, v37), (15, v24), (14, v16), (4, v16), (13, v16), (12, v13), (3, (Go.Value.int Go.IntKind.i64 0)), (2, v7), (1, v3)]) h100))) (fun v14 h15 => k (.panic v14) (updL σ [(12, v13), (3, (Go.Value.int Go.IntKind.i64 0)), (2, v7), (1, v3)]) h15)
theorem g28_eq (call : Call) (lf : Nat) (args : List Value) (h : AHeap) : evB EK call lf 28 args h = g28 call lf (st0 args) h (finS EK [.cell 2 67, .tmp 3]) := by kernel_rfl
theorem c28 (call : Call) (args : List Value) (h : AHeap) (K kp : K2) : evCall EK call 28 args h K kp = cCall call 28 args [(true, [.slc, .int .i64, .int .i64]), (false, [.int .i64])] h K kp := by kernel_rfl
-- "kerf/kerflaw06.num"
noncomputable def g30 (call : Call) (lf : Nat) (σ : St) (h : AHeap) (k : KS) : Option Ans :=
  k .ret (updL σ [(2, (σ 0)), (3, (σ 0)), (2, (Go.Value.int Go.IntKind.i64 0))]) h
theorem g30_eq (call : Call) (lf : Nat) (args : List Value) (h : AHeap) : evB EK call lf 30 args h = g30 call lf (st0 args) h (finS EK [.tmp 2]) := by kernel_rfl
theorem c30 (call : Call) (args : List Value) (h : AHeap) (K kp : K2) : evCall EK call 30 args h K kp = cCall call 30 args [(false, [.int .i64])] h K kp := by kernel_rfl
-- "slices.Clone[[]int,int]"
noncomputable def g54 (call : Call) (lf : Nat) (σ : St) (h : AHeap) (k : KS) : Option Ans :=
  cBin EK .eql 52 (σ 0) (Go.Value.slice none 0 0) fun v7 =>
  cIf v7
  (k .ret (updL σ [(2, (Go.Value.slice none 0 0)), (4, v7), (3, (σ 0)), (2, (Go.Value.slice none 0 0))]) h)
  (cBuildS 3 0 [] [] h fun v12 h13 =>
  cAppend 3 1 8 v12 (σ 0) h13 fun v18 h19 =>
  k .ret (updL σ [(2, v18), (7, v18), (6, (σ 0)), (5, v12), (4, v7), (3, (σ 0)), (2, (Go.Value.slice none 0 0))]) h19)
theorem g54_eq (call : Call) (lf : Nat) (args : List Value) (h : AHeap) : evB EK call lf 54 args h = g54 call lf (st0 args) h (finS EK [.tmp 2]) := by kernel_rfl
theorem c54 (call : Call) (args : List Value) (h : AHeap) (K kp : K2) : evCall EK call 54 args h K kp = cCall call 54 args [(false, [.slc])] h K kp := by kernel_rfl
-- "kerf/pattern.Check"
noncomputable def g55 (call : Call) (lf : Nat) (σ : St) (h : AHeap) (k : KS) : Option Ans :=
  cNew (σ 0).cells.toList 64 h fun v3 h4 =>
  cNew (σ 1).cells.toList 3 h4 fun v7 h8 =>
  cNew [(.int .i64 (0))] 3 h8 fun v13 h14 =>
  cStore 1 v13 (Go.Value.int Go.IntKind.i64 0) h14 fun h17 =>
  cNew [.nilFunc] 149 h17 fun v20 h21 =>
  cStore 1 v20 (Value.func (.func 97) #[] #[v13, v7, v20]) h21 fun h26 =>
  cLoad1 (.any) v20 h26 fun v29 =>
  cLoadA [.int .i64, .slc, .slc] v3 h26 fun v32 =>
  cCallV EK call v29 [v32] h26 (fun v35 h36 =>
  k .ret (updL σ [(4, v35), (10, v35), (9, v32), (8, v29), (7, (Value.func (.func 97) #[] #[v13, v7, v20])), (6, v20), (5, v13), (4, (Go.Value.int Go.IntKind.i64 0)), (3, v7), (2, v3)]) h36) (fun v33 h34 => k (.panic v33) (updL σ [(9, v32), (8, v29), (7, (Value.func (.func 97) #[] #[v13, v7, v20])), (6, v20), (5, v13), (4, (Go.Value.int Go.IntKind.i64 0)), (3, v7), (2, v3)]) h34)
theorem g55_eq (call : Call) (lf : Nat) (args : List Value) (h : AHeap) : evB EK call lf 55 args h = g55 call lf (st0 args) h (finS EK [.tmp 4]) := by kernel_rfl
theorem c55 (call : Call) (args : List Value) (h : AHeap) (K kp : K2) : evCall EK call 55 args h K kp = cCall call 55 args [(false, [.int .i64])] h K kp := by kernel_rfl
-- "kerf/nfa.Of$1"
noncomputable def g56 (call : Call) (lf : Nat) (σ : St) (h : AHeap) (k : KS) : Option Ans :=
  cFieldAddr 0 (σ 0) fun v5 =>
  cLoad1 (.slc) v5 h fun v8 =>
  cBuild [] [(.slice none 0 0), (.slice none 0 0)] fun v11 =>
  cBuildS 102 1 [(0, 2, v11)] [(.slice none 0 0), (.slice none 0 0)] h fun v14 h15 =>
  cAppend 102 2 48 v8 v14 h15 fun v18 h19 =>
  cFieldAddr 0 (σ 0) fun v22 =>
  cStore 1 v22 v18 h19 fun h25 =>
  cFieldAddr 0 (σ 0) fun v28 =>
  cLoad1 (.slc) v28 h25 fun v31 =>
  cLenS v31 fun v34 =>
  cBin EK .sub 3 v34 (Go.Value.int Go.IntKind.i64 1) fun v37 =>
  k .ret (updL σ [(1, v37), (11, v37), (10, v34), (9, v31), (8, v28), (7, v22), (6, v18), (5, v14), (4, v11), (3, v8), (2, v5), (1, (Go.Value.int Go.IntKind.i64 0))]) h25
theorem g56_eq (call : Call) (lf : Nat) (args : List Value) (h : AHeap) : evB EK call lf 56 args h = g56 call lf (st0 args) h (finS EK [.tmp 1]) := by kernel_rfl
theorem c56 (call : Call) (args : List Value) (h : AHeap) (K kp : K2) : evCall EK call 56 args h K kp = cCall call 56 args [(false, [.int .i64])] h K kp := by kernel_rfl
-- "kerf/nfa.Of$2"
noncomputable def g57 (call : Call) (lf : Nat) (σ : St) (h : AHeap) (k : KS) : Option Ans :=
  dr (cFieldAddr 0 (σ 2) fun v3 =>
  rety v3 h) fun v1 h2 =>
  dr (cLoad1 (.slc) v1 h2 fun v6 =>
  rety v6 h2) fun v4 h5 =>
  dr (cFieldAddr 0 (σ 2) fun v9 =>
  rety v9 h5) fun v7 h8 =>
  dr (cLoad1 (.slc) v7 h8 fun v12 =>
  rety v12 h8) fun v10 h11 =>
  dr (cIdxS 2 v10 (σ 0) fun v15 =>
  rety v15 h11) fun v13 h14 =>
  dr (cFieldAddr 1 v13 fun v18 =>
  rety v18 h14) fun v16 h17 =>
  dr (cLoad1 (.slc) v16 h17 fun v21 =>
  rety v21 h17) fun v19 h20 =>
  dr (cBuildS 3 1 [(0, 1, (σ 1))] [(.int .i64 (0))] h20 fun v24 h25 =>
  rety v24 h25) fun v22 h23 =>
  hk (ob (fillP [(0, 1, (σ 1))] [(.int .i64 (0))]) fun l26 => some (l26, 3)) v22 h23 (
  rk (rety (σ 1) h23) (σ 1) (
  rk (cLoad1 (.slc) v16 h23 fun v27 =>
  rety v27 h23) v19 (
  rk (cFieldAddr 1 v13 fun v28 =>
  rety v28 h23) v16 (
  rk (cIdxS 2 v10 (σ 0) fun v29 =>
  rety v29 h23) v13 (
  rk (rety (σ 0) h23) (σ 0) (
  rk (cLoad1 (.slc) v7 h23 fun v30 =>
  rety v30 h23) v10 (
  rk (cFieldAddr 0 (σ 2) fun v31 =>
  rety v31 h23) v7 (
  rk (rety (σ 0) h23) (σ 0) (
  rk (cLoad1 (.slc) v1 h23 fun v32 =>
  rety v32 h23) v4 (
  rk (cFieldAddr 0 (σ 2) fun v33 =>
  rety v33 h23) v1 (
  dr (cAppend 3 1 8 v19 v22 h23 fun v36 h37 =>
  rety v36 h37) fun v34 h35 =>
  rk (rety (σ 0) h35) (σ 0) (
  rk (cLoad1 (.slc) v1 h35 fun v38 =>
  rety v38 h35) v4 (
  rk (cFieldAddr 0 (σ 2) fun v39 =>
  rety v39 h35) v1 (
  dr (cIdxS 2 v4 (σ 0) fun v42 =>
  rety v42 h35) fun v40 h41 =>
  dr (cFieldAddr 1 v40 fun v45 =>
  rety v45 h41) fun v43 h44 =>
  dr (cStore 1 v43 v34 h44 fun h48 =>
  rety undef h48) fun v46 h47 =>
  k .normal (updL σ [(18, v43), (17, v40), (16, v34), (15, v22), (14, (σ 1)), (13, v19), (12, v16), (11, v13), (10, (σ 0)), (9, v10), (8, v7), (7, (σ 0)), (6, v4), (5, v1)]) h47))))))))))))))
theorem g57_eq (call : Call) (lf : Nat) (args : List Value) (h : AHeap) : evB EK call lf 57 args h = g57 call lf (st0 args) h (finS EK []) := by kernel_rfl
theorem c57 (call : Call) (args : List Value) (h : AHeap) (K kp : K2) : evCall EK call 57 args h K kp = cCall call 57 args [] h K kp := by kernel_rfl
-- "kerf/nfa.Of$3"
noncomputable def g58_C2 (call : Call) (lf : Nat) (σ : St) (h : AHeap) (k : KS) : Option Ans :=
  cLoad1 (.any) (σ 3) h fun v105 =>
  cCallV EK call v105 [(σ 9), (σ 10)] h (fun v112 h113 =>
  k .ret (updL σ [(6, (σ 10)), (5, (σ 7)), (47, (σ 10)), (46, (σ 7)), (45, v112), (44, (σ 10)), (43, (σ 9)), (42, v105)]) h113) (fun v110 h111 => k (.panic v110) (updL σ [(44, (σ 10)), (43, (σ 9)), (42, v105)]) h111)
noncomputable def g58_C1 (call : Call) (lf : Nat) (σ : St) (h : AHeap) (k : KS) : Option Ans :=
  cFieldAddr 0 (σ 4) fun v85 =>
  cLoad1 (.int .i64) v85 h fun v88 =>
  cBin EK .neq 3 v88 (Go.Value.int Go.IntKind.i64 6) fun v91 =>
  cIf v91
  (cLoad1 (.any) (σ 3) h fun v94 =>
  cCallV EK call v94 [(σ 9), (σ 8)] h (fun v101 h102 =>
  g58_C2 call lf (updL σ [(41, v101), (40, (σ 8)), (39, (σ 9)), (38, v94), (37, v91), (36, v88), (35, v85)]) h102 k) (fun v99 h100 => k (.panic v99) (updL σ [(40, (σ 8)), (39, (σ 9)), (38, v94), (37, v91), (36, v88), (35, v85)]) h100))
  (g58_C2 call lf (updL σ [(37, v91), (36, v88), (35, v85)]) h k)
noncomputable def g58 (call : Call) (lf : Nat) (σ : St) (h : AHeap) (k : KS) : Option Ans :=
  cNew (σ 0).cells.toList 64 h fun v3 h4 =>
  cLoad1 (.any) (σ 1) h4 fun v11 =>
  cCallV EK call v11 [] h4 (fun v14 h15 =>
  dr (cLoad1 (.any) (σ 2) h15 fun v20 =>
  rety v20 h15) fun v18 h19 =>
  dr (cFieldAddr 2 v3 fun v23 =>
  rety v23 h19) fun v21 h22 =>
  dr (cLoad1 (.slc) v21 h22 fun v26 =>
  rety v26 h22) fun v24 h25 =>
  dr (cIdxS 3 v24 (Go.Value.int Go.IntKind.i64 0) fun v29 =>
  rety v29 h25) fun v27 h28 =>
  dr (cLoadA [.int .i64, .slc, .slc] v27 h28 fun v32 =>
  rety v32 h28) fun v30 h31 =>
  dr (cCallV EK call v18 [v30] h31 (fun v35 h36 =>
  rety v35 h36) nopan) fun v33 h34 =>
  dr (cExtract v33 0 fun v39 =>
  rety v39 h34) fun v37 h38 =>
  dr (cExtract v33 1 fun v42 =>
  rety v42 h38) fun v40 h41 =>
  cLoad1 (.any) (σ 1) h41 fun v45 =>
  cCallV EK call v45 [] h41 (fun v48 h49 =>
  cLoad1 (.any) (σ 3) h49 fun v54 =>
  cCallV EK call v54 [v14, v37] h49 (fun v61 h62 =>
  cFieldAddr 0 v3 fun v65 =>
  cLoad1 (.int .i64) v65 h62 fun v68 =>
  cBin EK .neq 3 v68 (Go.Value.int Go.IntKind.i64 5) fun v71 =>
  cIf v71
  (cLoad1 (.any) (σ 3) h62 fun v74 =>
  cCallV EK call v74 [v14, v48] h62 (fun v81 h82 =>
  g58_C1 call lf (updL σ [(34, v81), (33, v48), (32, v14), (31, v74), (30, v71), (29, v68), (28, v65), (27, v61), (26, v37), (25, v14), (24, v54), (10, v48), (23, v48), (22, v45), (9, v40), (8, v37), (21, v40), (20, v37), (13, v33), (19, v33), (18, v30), (17, v27), (16, v24), (15, v21), (14, v18), (7, v14), (12, v14), (11, v11), (6, (Go.Value.int Go.IntKind.i64 0)), (5, (Go.Value.int Go.IntKind.i64 0)), (4, v3)]) h82 k) (fun v79 h80 => k (.panic v79) (updL σ [(33, v48), (32, v14), (31, v74), (30, v71), (29, v68), (28, v65), (27, v61), (26, v37), (25, v14), (24, v54), (10, v48), (23, v48), (22, v45), (9, v40), (8, v37), (21, v40), (20, v37), (13, v33), (19, v33), (18, v30), (17, v27), (16, v24), (15, v21), (14, v18), (7, v14), (12, v14), (11, v11), (6, (Go.Value.int Go.IntKind.i64 0)), (5, (Go.Value.int Go.IntKind.i64 0)), (4, v3)]) h80))
  (g58_C1 call lf (updL σ [(30, v71), (29, v68), (28, v65), (27, v61), (26, v37), (25, v14), (24, v54), (10, v48), (23, v48), (22, v45), (9, v40), (8, v37), (21, v40), (20, v37), (13, v33), (19, v33), (18, v30), (17, v27), (16, v24), (15, v21), (14, v18), (7, v14), (12, v14), (11, v11), (6, (Go.Value.int Go.IntKind.i64 0)), (5, (Go.Value.int Go.IntKind.i64 0)), (4, v3)]) h62 k)) (fun v59 h60 => k (.panic v59) (updL σ [(26, v37), (25, v14), (24, v54), (10, v48), (23, v48), (22, v45), (9, v40), (8, v37), (21, v40), (20, v37), (13, v33), (19, v33), (18, v30), (17, v27), (16, v24), (15, v21), (14, v18), (7, v14), (12, v14), (11, v11), (6, (Go.Value.int Go.IntKind.i64 0)), (5, (Go.Value.int Go.IntKind.i64 0)), (4, v3)]) h60)) (fun v46 h47 => k (.panic v46) (updL σ [(22, v45), (9, v40), (8, v37), (21, v40), (20, v37), (13, v33), (19, v33), (18, v30), (17, v27), (16, v24), (15, v21), (14, v18), (7, v14), (12, v14), (11, v11), (6, (Go.Value.int Go.IntKind.i64 0)), (5, (Go.Value.int Go.IntKind.i64 0)), (4, v3)]) h47)) (fun v12 h13 => k (.panic v12) (updL σ [(11, v11), (6, (Go.Value.int Go.IntKind.i64 0)), (5, (Go.Value.int Go.IntKind.i64 0)), (4, v3)]) h13)
theorem g58_eq (call : Call) (lf : Nat) (args : List Value) (h : AHeap) : evB EK call lf 58 args h = g58 call lf (st0 args) h (finS EK [.tmp 5, .tmp 6]) := by kernel_rfl
theorem c58 (call : Call) (args : List Value) (h : AHeap) (K kp : K2) : evCall EK call 58 args h K kp = cCall call 58 args [(false, [.int .i64]), (false, [.int .i64])] h K kp := by kernel_rfl
-- "kerf/nfa.Of$4"
noncomputable def g59_L1 (call : Call) (lf : Nat) (σ : St) (h : AHeap) (k : KS) : Option Ans :=
  cBin EK .lss 3 (σ 21) (σ 20) fun v33 =>
  cIf v33
  (cIdxS 3 (σ 19) (σ 21) fun v36 =>
  cLoadA [.int .i64, .slc, .slc] v36 h fun v39 =>
  cNew [(.int .i64 (0)), (.slice none 0 0), (.slice none 0 0)] 64 h fun v42 h43 =>
  cStore 3 v42 v39 h43 fun h46 =>
  cLoad1 (.any) (σ 2) h46 fun v49 =>
  cLoadA [.int .i64, .slc, .slc] v42 h46 fun v52 =>
  cCallV EK call v49 [v52] h46 (fun v55 h56 =>
  cExtract v55 0 fun v61 =>
  cExtract v55 1 fun v64 =>
  cLoad1 (.any) (σ 3) h56 fun v71 =>
  cCallV EK call v71 [(σ 7), v61] h56 (fun v78 h79 =>
  cBuildS 3 1 [(0, 1, v64)] [(.int .i64 (0))] h79 fun v86 h87 =>
  cAppend 3 1 8 (σ 8) v86 h87 fun v90 h91 =>
  cBin EK .add 3 (σ 21) (Go.Value.int Go.IntKind.i64 1) fun v96 =>
  k .normal (updL σ [(21, v96), (39, v96), (8, v90), (38, v90), (37, v86), (36, v64), (35, (σ 8)), (34, v78), (33, v61), (32, (σ 7)), (31, v71), (12, v64), (11, v61), (30, v64), (29, v61), (25, v55), (28, v55), (27, v52), (26, v49), (10, v42), (24, v39), (23, v36), (22, v33)]) h91) (fun v76 h77 => k (.panic v76) (updL σ [(33, v61), (32, (σ 7)), (31, v71), (12, v64), (11, v61), (30, v64), (29, v61), (25, v55), (28, v55), (27, v52), (26, v49), (10, v42), (24, v39), (23, v36), (22, v33)]) h77)) (fun v53 h54 => k (.panic v53) (updL σ [(27, v52), (26, v49), (10, v42), (24, v39), (23, v36), (22, v33)]) h54))
  (k (.exit 0) (updL σ [(22, v33)]) h)
noncomputable def g59_L3 (call : Call) (lf : Nat) (σ : St) (h : AHeap) (k : KS) : Option Ans :=
  cBin EK .lss 3 (σ 44) (σ 43) fun v117 =>
  cIf v117
  (cIdxS 1 (σ 42) (σ 44) fun v120 =>
  cLoad1 (.int .i64) v120 h fun v123 =>
  cLoad1 (.any) (σ 3) h fun v128 =>
  cCallV EK call v128 [v123, (σ 13)] h (fun v135 h136 =>
  cBin EK .add 3 (σ 44) (Go.Value.int Go.IntKind.i64 1) fun v139 =>
  k .normal (updL σ [(44, v139), (52, v139), (51, v135), (50, (σ 13)), (49, v123), (48, v128), (15, v123), (47, v123), (46, v120), (45, v117)]) h136) (fun v133 h134 => k (.panic v133) (updL σ [(50, (σ 13)), (49, v123), (48, v128), (15, v123), (47, v123), (46, v120), (45, v117)]) h134))
  (k (.exit 2) (updL σ [(45, v117)]) h)
noncomputable def g59_C4 (call : Call) (lf : Nat) (σ : St) (h : AHeap) (k : KS) : Option Ans :=
  k .ret (updL σ [(6, (σ 13)), (5, (σ 7)), (54, (σ 13)), (53, (σ 7))]) h
noncomputable def g59_C2 (call : Call) (lf : Nat) (σ : St) (h : AHeap) (k : KS) : Option Ans :=
  cLoad1 (.any) (σ 1) h fun v101 =>
  cCallV EK call v101 [] h (fun v104 h105 =>
  cLenS (σ 8) fun v112 =>
  loopS (g59_L3 call lf) lf (updL σ [(44, (Go.Value.int Go.IntKind.i64 0)), (43, v112), (42, (σ 8)), (13, v104), (41, v104), (40, v101)]) h105 (hBlk 2 (hSeq (fun σ h => g59_C4 call lf σ h k) k))) (fun v102 h103 => k (.panic v102) (updL σ [(40, v101)]) h103)
noncomputable def g59 (call : Call) (lf : Nat) (σ : St) (h : AHeap) (k : KS) : Option Ans :=
  cNew (σ 0).cells.toList 64 h fun v3 h4 =>
  cLoad1 (.any) (σ 1) h4 fun v11 =>
  cCallV EK call v11 [] h4 (fun v14 h15 =>
  cFieldAddr 2 v3 fun v22 =>
  cLoad1 (.slc) v22 h15 fun v25 =>
  cLenS v25 fun v28 =>
  loopS (g59_L1 call lf) lf (updL σ [(21, (Go.Value.int Go.IntKind.i64 0)), (20, v28), (19, v25), (18, v22), (8, (Go.Value.slice none 0 0)), (7, v14), (17, v14), (16, v11), (6, (Go.Value.int Go.IntKind.i64 0)), (5, (Go.Value.int Go.IntKind.i64 0)), (4, v3)]) h15 (hBlk 0 (hSeq (fun σ h => g59_C2 call lf σ h k) k))) (fun v12 h13 => k (.panic v12) (updL σ [(16, v11), (6, (Go.Value.int Go.IntKind.i64 0)), (5, (Go.Value.int Go.IntKind.i64 0)), (4, v3)]) h13)
theorem g59_eq (call : Call) (lf : Nat) (args : List Value) (h : AHeap) : evB EK call lf 59 args h = g59 call lf (st0 args) h (finS EK [.tmp 5, .tmp 6]) := by kernel_rfl
theorem c59 (call : Call) (args : List Value) (h : AHeap) (K kp : K2) : evCall EK call 59 args h K kp = cCall call 59 args [(false, [.int .i64]), (false, [.int .i64])] h K kp := by kernel_rfl
-- "kerf/nfa.Of$5"
noncomputable def g60_L1 (call : Call) (lf : Nat) (σ : St) (h : AHeap) (k : KS) : Option Ans :=
  cBin EK .lss 3 (σ 25) (σ 24) fun v50 =>
  cIf v50
  (cIdxS 3 (σ 23) (σ 25) fun v53 =>
  cLoadA [.int .i64, .slc, .slc] v53 h fun v56 =>
  cNew [(.int .i64 (0)), (.slice none 0 0), (.slice none 0 0)] 64 h fun v59 h60 =>
  cStore 3 v59 v56 h60 fun h63 =>
  cLoad1 (.any) (σ 1) h63 fun v66 =>
  cLoadA [.int .i64, .slc, .slc] v59 h63 fun v69 =>
  cCallV EK call v66 [v69] h63 (fun v72 h73 =>
  cExtract v72 0 fun v78 =>
  cExtract v72 1 fun v81 =>
  cLoad1 (.any) (σ 2) h73 fun v88 =>
  cCallV EK call v88 [(σ 7), v78] h73 (fun v95 h96 =>
  cBin EK .add 3 (σ 25) (Go.Value.int Go.IntKind.i64 1) fun v103 =>
  k .normal (updL σ [(25, v103), (40, v103), (7, v81), (39, v81), (38, v95), (37, v78), (36, (σ 7)), (35, v88), (11, v81), (10, v78), (34, v81), (33, v78), (29, v72), (32, v72), (31, v69), (30, v66), (9, v59), (28, v56), (27, v53), (26, v50)]) h96) (fun v93 h94 => k (.panic v93) (updL σ [(37, v78), (36, (σ 7)), (35, v88), (11, v81), (10, v78), (34, v81), (33, v78), (29, v72), (32, v72), (31, v69), (30, v66), (9, v59), (28, v56), (27, v53), (26, v50)]) h94)) (fun v70 h71 => k (.panic v70) (updL σ [(31, v69), (30, v66), (9, v59), (28, v56), (27, v53), (26, v50)]) h71))
  (k (.exit 0) (updL σ [(26, v50)]) h)
noncomputable def g60_C2 (call : Call) (lf : Nat) (σ : St) (h : AHeap) (k : KS) : Option Ans :=
  k .ret (updL σ [(5, (σ 7)), (4, (σ 6)), (42, (σ 7)), (41, (σ 6))]) h
noncomputable def g60 (call : Call) (lf : Nat) (σ : St) (h : AHeap) (k : KS) : Option Ans :=
  cNew (σ 0).cells.toList 64 h fun v3 h4 =>
  dr (cLoad1 (.any) (σ 1) h4 fun v11 =>
  rety v11 h4) fun v9 h10 =>
  dr (cFieldAddr 2 v3 fun v14 =>
  rety v14 h10) fun v12 h13 =>
  dr (cLoad1 (.slc) v12 h13 fun v17 =>
  rety v17 h13) fun v15 h16 =>
  dr (cIdxS 3 v15 (Go.Value.int Go.IntKind.i64 0) fun v20 =>
  rety v20 h16) fun v18 h19 =>
  dr (cLoadA [.int .i64, .slc, .slc] v18 h19 fun v23 =>
  rety v23 h19) fun v21 h22 =>
  dr (cCallV EK call v9 [v21] h22 (fun v26 h27 =>
  rety v26 h27) nopan) fun v24 h25 =>
  dr (cExtract v24 0 fun v30 =>
  rety v30 h25) fun v28 h29 =>
  dr (cExtract v24 1 fun v33 =>
  rety v33 h29) fun v31 h32 =>
  cFieldAddr 2 v3 fun v36 =>
  cLoad1 (.slc) v36 h32 fun v39 =>
  cSliceS 3 v39 (some (Go.Value.int Go.IntKind.i64 1)) none none h32 fun v42 =>
  cLenS v42 fun v45 =>
  loopS (g60_L1 call lf) lf (updL σ [(25, (Go.Value.int Go.IntKind.i64 0)), (24, v45), (23, v42), (22, v39), (21, v36), (7, v31), (6, v28), (20, v31), (19, v28), (12, v24), (18, v24), (17, v21), (16, v18), (15, v15), (14, v12), (13, v9), (5, (Go.Value.int Go.IntKind.i64 0)), (4, (Go.Value.int Go.IntKind.i64 0)), (3, v3)]) h32 (hBlk 0 (hSeq (fun σ h => g60_C2 call lf σ h k) k))
theorem g60_eq (call : Call) (lf : Nat) (args : List Value) (h : AHeap) : evB EK call lf 60 args h = g60 call lf (st0 args) h (finS EK [.tmp 4, .tmp 5]) := by kernel_rfl
theorem c60 (call : Call) (args : List Value) (h : AHeap) (K kp : K2) : evCall EK call 60 args h K kp = cCall call 60 args [(false, [.int .i64]), (false, [.int .i64])] h K kp := by kernel_rfl
-- "kerf/nfa.Of$6"
noncomputable def g61_C2 (call : Call) (lf : Nat) (σ : St) (h : AHeap) (k : KS) : Option Ans :=
  k .ret (updL σ [(9, (σ 11)), (8, (σ 10)), (60, (σ 11)), (59, (σ 10))]) h
noncomputable def g61_C1 (call : Call) (lf : Nat) (σ : St) (h : AHeap) (k : KS) : Option Ans :=
  cIf (σ 28)
  (cLoad1 (.any) (σ 3) h fun v72 =>
  cLoadA [.int .i64, .slc, .slc] (σ 7) h fun v75 =>
  cCallV EK call v72 [v75] h (fun v78 h79 =>
  cExtract v78 0 fun v82 =>
  cExtract v78 1 fun v85 =>
  k .ret (updL σ [(9, v85), (8, v82), (36, v85), (35, v82), (34, v78), (33, v75), (32, v72)]) h79) (fun v76 h77 => k (.panic v76) (updL σ [(33, v75), (32, v72)]) h77))
  (dr (cLoad1 (.any) (σ 4) h fun v92 =>
  rety v92 h) fun v90 h91 =>
  dr (cLoad1 (.any) (σ 4) h91 fun v95 =>
  rety v95 h91) fun v93 h94 =>
  dr (cCallV EK call v90 [] h94 (fun v98 h99 =>
  rety v98 h99) nopan) fun v96 h97 =>
  rk (cLoad1 (.any) (σ 4) h97 fun v100 =>
  rety v100 h97) v93 (
  dr (cCallV EK call v93 [] h97 (fun v103 h104 =>
  rety v103 h104) nopan) fun v101 h102 =>
  cFieldAddr 0 (σ 7) fun v107 =>
  cLoad1 (.int .i64) v107 h102 fun v110 =>
  cBin EK .eql 3 v110 (Go.Value.int Go.IntKind.i64 0) fun v113 =>
  cIf v113
  (cLoad1 (.any) (σ 5) h102 fun v116 =>
  cCallV EK call v116 [v96, v101] h102 (fun v123 h124 =>
  g61_C2 call lf (updL σ [(47, v123), (46, v101), (45, v96), (44, v116), (43, v113), (42, v110), (41, v107), (11, v101), (10, v96), (40, v101), (38, v96), (39, v93), (37, v90)]) h124 k) (fun v121 h122 => k (.panic v121) (updL σ [(46, v101), (45, v96), (44, v116), (43, v113), (42, v110), (41, v107), (11, v101), (10, v96), (40, v101), (38, v96), (39, v93), (37, v90)]) h122))
  (dr (cFieldAddr 0 (σ 6) fun v135 =>
  rety v135 h102) fun v133 h134 =>
  dr (cLoad1 (.slc) v133 h134 fun v138 =>
  rety v138 h134) fun v136 h137 =>
  dr (cFieldAddr 1 (σ 7) fun v141 =>
  rety v141 h137) fun v139 h140 =>
  dr (cLoad1 (.slc) v139 h140 fun v144 =>
  rety v144 h140) fun v142 h143 =>
  dr (cCall call 54 [v142] [(false, [.slc])] h143 (fun v147 h148 =>
  rety v147 h148) nopan) fun v145 h146 =>
  rk (rety v101 h146) v101 (
  rk (rety v96 h146) v96 (
  rk (cLoad1 (.slc) v133 h146 fun v149 =>
  rety v149 h146) v136 (
  rk (cFieldAddr 0 (σ 6) fun v150 =>
  rety v150 h146) v133 (
  dr (cBuild [(0, 1, v145), (1, 1, v101)] [(.slice none 0 0), (.int .i64 (0))] fun v153 =>
  rety v153 h146) fun v151 h152 =>
  dr (cBuildS 106 1 [(0, 2, v151)] [(.slice none 0 0), (.int .i64 (0))] h152 fun v156 h157 =>
  rety v156 h157) fun v154 h155 =>
  rk (rety v96 h155) v96 (
  rk (cLoad1 (.slc) v133 h155 fun v158 =>
  rety v158 h155) v136 (
  rk (cFieldAddr 0 (σ 6) fun v159 =>
  rety v159 h155) v133 (
  dr (cIdxS 2 v136 v96 fun v162 =>
  rety v162 h155) fun v160 h161 =>
  dr (cFieldAddr 0 v160 fun v165 =>
  rety v165 h161) fun v163 h164 =>
  dr (cStore 1 v163 v154 h164 fun h168 =>
  rety undef h168) fun v166 h167 =>
  g61_C2 call lf (updL σ [(58, v163), (57, v160), (56, v154), (55, v151), (53, v145), (54, v101), (52, v142), (51, v139), (50, v96), (49, v136), (48, v133), (43, v113), (42, v110), (41, v107), (11, v101), (10, v96), (40, v101), (38, v96), (39, v93), (37, v90)]) h167 k))))))))))
noncomputable def g61 (call : Call) (lf : Nat) (σ : St) (h : AHeap) (k : KS) : Option Ans :=
  cNew (σ 0).cells.toList 64 h fun v3 h4 =>
  cFieldAddr 0 v3 fun v11 =>
  cLoad1 (.int .i64) v11 h4 fun v14 =>
  cBin EK .eql 3 v14 (Go.Value.int Go.IntKind.i64 2) fun v17 =>
  cIf v17
  (cLoad1 (.any) (σ 1) h4 fun v22 =>
  cLoadA [.int .i64, .slc, .slc] v3 h4 fun v25 =>
  cCallV EK call v22 [v25] h4 (fun v28 h29 =>
  cExtract v28 0 fun v32 =>
  cExtract v28 1 fun v35 =>
  k .ret (updL σ [(9, v35), (8, v32), (20, v35), (19, v32), (18, v28), (17, v25), (16, v22), (14, v17), (15, v17), (13, v14), (12, v11), (9, (Go.Value.int Go.IntKind.i64 0)), (8, (Go.Value.int Go.IntKind.i64 0)), (7, v3)]) h29) (fun v26 h27 => k (.panic v26) (updL σ [(17, v25), (16, v22), (14, v17), (15, v17), (13, v14), (12, v11), (9, (Go.Value.int Go.IntKind.i64 0)), (8, (Go.Value.int Go.IntKind.i64 0)), (7, v3)]) h27))
  (cBin EK .eql 3 v14 (Go.Value.int Go.IntKind.i64 3) fun v42 =>
  cIf v42
  (cLoad1 (.any) (σ 2) h4 fun v47 =>
  cLoadA [.int .i64, .slc, .slc] v3 h4 fun v50 =>
  cCallV EK call v47 [v50] h4 (fun v53 h54 =>
  cExtract v53 0 fun v57 =>
  cExtract v53 1 fun v60 =>
  k .ret (updL σ [(9, v60), (8, v57), (27, v60), (26, v57), (25, v53), (24, v50), (23, v47), (21, v42), (22, v42), (14, v17), (15, v17), (13, v14), (12, v11), (9, (Go.Value.int Go.IntKind.i64 0)), (8, (Go.Value.int Go.IntKind.i64 0)), (7, v3)]) h54) (fun v51 h52 => k (.panic v51) (updL σ [(24, v50), (23, v47), (21, v42), (22, v42), (14, v17), (15, v17), (13, v14), (12, v11), (9, (Go.Value.int Go.IntKind.i64 0)), (8, (Go.Value.int Go.IntKind.i64 0)), (7, v3)]) h52))
  (cBin EK .eql 3 v14 (Go.Value.int Go.IntKind.i64 4) fun v67 =>
  cIf v67
  (g61_C1 call lf (updL σ [(28, v67), (29, v67), (21, v42), (22, v42), (14, v17), (15, v17), (13, v14), (12, v11), (9, (Go.Value.int Go.IntKind.i64 0)), (8, (Go.Value.int Go.IntKind.i64 0)), (7, v3)]) h4 k)
  (cBin EK .eql 3 v14 (Go.Value.int Go.IntKind.i64 5) fun v171 =>
  cIf v171
  (g61_C1 call lf (updL σ [(28, v171), (30, v171), (28, v67), (29, v67), (21, v42), (22, v42), (14, v17), (15, v17), (13, v14), (12, v11), (9, (Go.Value.int Go.IntKind.i64 0)), (8, (Go.Value.int Go.IntKind.i64 0)), (7, v3)]) h4 k)
  (cBin EK .eql 3 v14 (Go.Value.int Go.IntKind.i64 6) fun v176 =>
  g61_C1 call lf (updL σ [(28, v176), (31, v176), (28, v171), (30, v171), (28, v67), (29, v67), (21, v42), (22, v42), (14, v17), (15, v17), (13, v14), (12, v11), (9, (Go.Value.int Go.IntKind.i64 0)), (8, (Go.Value.int Go.IntKind.i64 0)), (7, v3)]) h4 k))))
theorem g61_eq (call : Call) (lf : Nat) (args : List Value) (h : AHeap) : evB EK call lf 61 args h = g61 call lf (st0 args) h (finS EK [.tmp 8, .tmp 9]) := by kernel_rfl
theorem c61 (call : Call) (args : List Value) (h : AHeap) (K kp : K2) : evCall EK call 61 args h K kp = cCall call 61 args [(false, [.int .i64]), (false, [.int .i64])] h K kp := by kernel_rfl
-- "kerf/kerfref05.Check"
noncomputable def g62 (call : Call) (lf : Nat) (σ : St) (h : AHeap) (k : KS) : Option Ans :=
  cNew (σ 0).cells.toList 64 h fun v3 h4 =>
  cLoadA [.int .i64, .slc, .slc] v3 h4 fun v9 =>
  cCall call 99 [v9, (σ 1), (Go.Value.int Go.IntKind.i64 0)] [(false, [.int .i64]), (false, [.int .i64])] h4 (fun v14 h15 =>
  cExtract v14 0 fun v20 =>
  cExtract v14 1 fun v23 =>
  k .ret (updL σ [(4, v20), (13, v20), (6, v23), (5, v20), (12, v23), (11, v20), (7, v14), (10, v14), (9, (σ 1)), (8, v9), (4, (Go.Value.int Go.IntKind.i64 0)), (2, v3)]) h15) (fun v12 h13 => k (.panic v12) (updL σ [(9, (σ 1)), (8, v9), (4, (Go.Value.int Go.IntKind.i64 0)), (2, v3)]) h13)
theorem g62_eq (call : Call) (lf : Nat) (args : List Value) (h : AHeap) : evB EK call lf 62 args h = g62 call lf (st0 args) h (finS EK [.tmp 4]) := by kernel_rfl
theorem c62 (call : Call) (args : List Value) (h : AHeap) (K kp : K2) : evCall EK call 62 args h K kp = cCall call 62 args [(false, [.int .i64])] h K kp := by kernel_rfl
-- "kerf/pattern.Check$1"
noncomputable def g97_C2 (call : Call) (lf : Nat) (σ : St) (h : AHeap) (k : KS) : Option Ans :=
  cIf (σ 23)
  (dr (cLoad1 (.any) (σ 3) h fun v65 =>
  rety v65 h) fun v63 h64 =>
  dr (cFieldAddr 2 (σ 4) fun v68 =>
  rety v68 h64) fun v66 h67 =>
  dr (cLoad1 (.slc) v66 h67 fun v71 =>
  rety v71 h67) fun v69 h70 =>
  dr (cIdxS 3 v69 (σ 7) fun v74 =>
  rety v74 h70) fun v72 h73 =>
  dr (cLoadA [.int .i64, .slc, .slc] v72 h73 fun v77 =>
  rety v77 h73) fun v75 h76 =>
  dr (cCallV EK call v63 [v75] h76 (fun v80 h81 =>
  rety v80 h81) nopan) fun v78 h79 =>
  cBin EK .add 3 (σ 7) (Go.Value.int Go.IntKind.i64 1) fun v86 =>
  k .normal (updL σ [(7, v86), (25, v86), (24, (σ 7)), (6, v78), (32, v78), (31, v75), (30, v72), (29, (σ 7)), (28, v69), (27, v66), (26, v63)]) h79)
  (k (.exit 0) σ h)
noncomputable def g97_L1 (call : Call) (lf : Nat) (σ : St) (h : AHeap) (k : KS) : Option Ans :=
  cFieldAddr 2 (σ 4) fun v42 =>
  cLoad1 (.slc) v42 h fun v45 =>
  cLenS v45 fun v48 =>
  cBin EK .lss 3 (σ 7) v48 fun v51 =>
  gd v51
  (cBin EK .eql 37 (σ 6) (Go.Value.int Go.IntKind.i64 0) fun v59 =>
  cPick (Value.bool true) v59 (Go.Value.bool false) fun v62 =>
  g97_C2 call lf (updL σ [(23, v62), (22, v59), (20, (Value.bool true)), (21, (σ 6)), (20, (Value.bool true)), (20, v51), (19, v51), (18, v48), (17, v45), (16, v42), (15, (σ 7))]) h k)
  (cPick (Value.bool false) undef (Go.Value.bool false) fun v91 =>
  g97_C2 call lf (updL σ [(23, v91), (22, undef), (20, (Value.bool false)), (21, undef), (20, (Value.bool false)), (20, v51), (19, v51), (18, v48), (17, v45), (16, v42), (15, (σ 7))]) h k)
  (fun c54 => cPick (Value.tuple c54) undef (Go.Value.bool false) fun v94 =>
  g97_C2 call lf (updL σ [(23, v94), (22, undef), (20, (Value.tuple c54)), (21, undef), (20, (Value.tuple c54)), (20, v51), (19, v51), (18, v48), (17, v45), (16, v42), (15, (σ 7))]) h k)
noncomputable def g97_C3 (call : Call) (lf : Nat) (σ : St) (h : AHeap) (k : KS) : Option Ans :=
  k .ret (updL σ [(5, (σ 6)), (33, (σ 6))]) h
noncomputable def g97 (call : Call) (lf : Nat) (σ : St) (h : AHeap) (k : KS) : Option Ans :=
  cNew (σ 0).cells.toList 64 h fun v3 h4 =>
  cLoad1 (.int .i64) (σ 1) h4 fun v9 =>
  cBin EK .eql 3 v9 (Go.Value.int Go.IntKind.i64 2048) fun v12 =>
  cIf v12
  (k .ret (updL σ [(5, (Go.Value.int Go.IntKind.i64 52)), (9, v12), (8, v9), (5, (Go.Value.int Go.IntKind.i64 0)), (4, v3)]) h4)
  (cLoad1 (.int .i64) (σ 1) h4 fun v17 =>
  cBin EK .add 3 v17 (Go.Value.int Go.IntKind.i64 1) fun v20 =>
  cStore 1 (σ 1) v20 h4 fun h23 =>
  cLoadA [.int .i64, .slc, .slc] v3 h23 fun v26 =>
  cLoad1 (.int .i64) (σ 2) h23 fun v29 =>
  cCall call 98 [v26, v29] [(false, [.int .i64])] h23 (fun v32 h33 =>
  loopS (g97_L1 call lf) lf (updL σ [(7, (Go.Value.int Go.IntKind.i64 0)), (6, v32), (14, v32), (13, v29), (12, v26), (11, v20), (10, v17), (9, v12), (8, v9), (5, (Go.Value.int Go.IntKind.i64 0)), (4, v3)]) h33 (hBlk 0 (hSeq (fun σ h => g97_C3 call lf σ h k) k))) (fun v30 h31 => k (.panic v30) (updL σ [(13, v29), (12, v26), (11, v20), (10, v17), (9, v12), (8, v9), (5, (Go.Value.int Go.IntKind.i64 0)), (4, v3)]) h31))
theorem g97_eq (call : Call) (lf : Nat) (args : List Value) (h : AHeap) : evB EK call lf 97 args h = g97 call lf (st0 args) h (finS EK [.tmp 5]) := by kernel_rfl
theorem c97 (call : Call) (args : List Value) (h : AHeap) (K kp : K2) : evCall EK call 97 args h K kp = cCall call 97 args [(false, [.int .i64])] h K kp := by kernel_rfl
-- "kerf/pattern.node"
noncomputable def g98_C3 (call : Call) (lf : Nat) (σ : St) (h : AHeap) (k : KS) : Option Ans :=
  cIf (σ 35)
  (k .ret (updL σ [(4, (Go.Value.int Go.IntKind.i64 53))]) h)
  (cFieldAddr 1 (σ 2) fun v67 =>
  cLoad1 (.slc) v67 h fun v70 =>
  cCall call 131 [v70, (σ 1)] [(false, [.bool])] h (fun v75 h76 =>
  cUn .not v75 fun v79 =>
  cIf v79
  (k .ret (updL σ [(4, (Go.Value.int Go.IntKind.i64 51)), (40, v79), (39, v75), (38, (σ 1)), (37, v70), (36, v67)]) h76)
  (k .ret (updL σ [(4, (Go.Value.int Go.IntKind.i64 0)), (40, v79), (39, v75), (38, (σ 1)), (37, v70), (36, v67)]) h76)) (fun v73 h74 => k (.panic v73) (updL σ [(38, (σ 1)), (37, v70), (36, v67)]) h74))
noncomputable def g98_C2 (call : Call) (lf : Nat) (σ : St) (h : AHeap) (k : KS) : Option Ans :=
  cFieldAddr 0 (σ 2) fun v38 =>
  cLoad1 (.int .i64) v38 h fun v41 =>
  cBin EK .neq 3 v41 (Go.Value.int Go.IntKind.i64 1) fun v44 =>
  gd v44
  (cFieldAddr 1 (σ 2) fun v50 =>
  cLoad1 (.slc) v50 h fun v53 =>
  cLenS v53 fun v56 =>
  cBin EK .gtr 3 v56 (Go.Value.int Go.IntKind.i64 0) fun v59 =>
  cPick (Value.bool true) v59 (Go.Value.bool false) fun v62 =>
  g98_C3 call lf (updL σ [(35, v62), (34, v59), (30, (Value.bool true)), (33, v56), (30, (Value.bool true)), (32, v53), (30, (Value.bool true)), (31, v50), (30, (Value.bool true)), (30, v44), (29, v44), (28, v41), (27, v38)]) h k)
  (cPick (Value.bool false) undef (Go.Value.bool false) fun v86 =>
  g98_C3 call lf (updL σ [(35, v86), (34, undef), (30, (Value.bool false)), (33, undef), (30, (Value.bool false)), (32, undef), (30, (Value.bool false)), (31, undef), (30, (Value.bool false)), (30, v44), (29, v44), (28, v41), (27, v38)]) h k)
  (fun c47 => cPick (Value.tuple c47) undef (Go.Value.bool false) fun v89 =>
  g98_C3 call lf (updL σ [(35, v89), (34, undef), (30, (Value.tuple c47)), (33, undef), (30, (Value.tuple c47)), (32, undef), (30, (Value.tuple c47)), (31, undef), (30, (Value.tuple c47)), (30, v44), (29, v44), (28, v41), (27, v38)]) h k)
noncomputable def g98_C5 (call : Call) (lf : Nat) (σ : St) (h : AHeap) (k : KS) : Option Ans :=
  cIf (σ 21)
  (cBin EK .neq 3 (σ 5) (Go.Value.int Go.IntKind.i64 1) fun v111 =>
  cIf v111
  (k .ret (updL σ [(4, (Go.Value.int Go.IntKind.i64 53)), (26, v111), (25, (σ 5))]) h)
  (g98_C2 call lf (updL σ [(26, v111), (25, (σ 5))]) h k))
  (k .ret (updL σ [(4, (Go.Value.int Go.IntKind.i64 53))]) h)
noncomputable def g98_C4 (call : Call) (lf : Nat) (σ : St) (h : AHeap) (k : KS) : Option Ans :=
  cIf (σ 16)
  (cBin EK .lss 3 (σ 5) (Go.Value.int Go.IntKind.i64 2) fun v99 =>
  cIf v99
  (k .ret (updL σ [(4, (Go.Value.int Go.IntKind.i64 53)), (20, v99), (19, (σ 5))]) h)
  (g98_C2 call lf (updL σ [(20, v99), (19, (σ 5))]) h k))
  (cBin EK .eql 3 (σ 10) (Go.Value.int Go.IntKind.i64 4) fun v104 =>
  cIf v104
  (g98_C5 call lf (updL σ [(21, v104), (22, v104)]) h k)
  (cBin EK .eql 3 (σ 10) (Go.Value.int Go.IntKind.i64 5) fun v118 =>
  cIf v118
  (g98_C5 call lf (updL σ [(21, v118), (23, v118), (21, v104), (22, v104)]) h k)
  (cBin EK .eql 3 (σ 10) (Go.Value.int Go.IntKind.i64 6) fun v123 =>
  g98_C5 call lf (updL σ [(21, v123), (24, v123), (21, v118), (23, v118), (21, v104), (22, v104)]) h k)))
noncomputable def g98_C1 (call : Call) (lf : Nat) (σ : St) (h : AHeap) (k : KS) : Option Ans :=
  cIf (σ 11)
  (cBin EK .neq 3 (σ 5) (Go.Value.int Go.IntKind.i64 0) fun v33 =>
  cIf v33
  (k .ret (updL σ [(4, (Go.Value.int Go.IntKind.i64 53)), (15, v33), (14, (σ 5))]) h)
  (g98_C2 call lf (updL σ [(15, v33), (14, (σ 5))]) h k))
  (cBin EK .eql 3 (σ 10) (Go.Value.int Go.IntKind.i64 2) fun v92 =>
  cIf v92
  (g98_C4 call lf (updL σ [(16, v92), (17, v92)]) h k)
  (cBin EK .eql 3 (σ 10) (Go.Value.int Go.IntKind.i64 3) fun v128 =>
  g98_C4 call lf (updL σ [(16, v128), (18, v128), (16, v92), (17, v92)]) h k))
noncomputable def g98 (call : Call) (lf : Nat) (σ : St) (h : AHeap) (k : KS) : Option Ans :=
  cNew (σ 0).cells.toList 64 h fun v3 h4 =>
  cFieldAddr 2 v3 fun v9 =>
  cLoad1 (.slc) v9 h4 fun v12 =>
  cLenS v12 fun v15 =>
  cFieldAddr 0 v3 fun v20 =>
  cLoad1 (.int .i64) v20 h4 fun v23 =>
  cBin EK .eql 3 v23 (Go.Value.int Go.IntKind.i64 0) fun v26 =>
  cIf v26
  (g98_C1 call lf (updL σ [(11, v26), (12, v26), (10, v23), (9, v20), (5, v15), (8, v15), (7, v12), (6, v9), (4, (Go.Value.int Go.IntKind.i64 0)), (2, v3)]) h4 k)
  (cBin EK .eql 3 v23 (Go.Value.int Go.IntKind.i64 1) fun v133 =>
  g98_C1 call lf (updL σ [(11, v133), (13, v133), (11, v26), (12, v26), (10, v23), (9, v20), (5, v15), (8, v15), (7, v12), (6, v9), (4, (Go.Value.int Go.IntKind.i64 0)), (2, v3)]) h4 k)
theorem g98_eq (call : Call) (lf : Nat) (args : List Value) (h : AHeap) : evB EK call lf 98 args h = g98 call lf (st0 args) h (finS EK [.tmp 4]) := by kernel_rfl
theorem c98 (call : Call) (args : List Value) (h : AHeap) (K kp : K2) : evCall EK call 98 args h K kp = cCall call 98 args [(false, [.int .i64])] h K kp := by kernel_rfl
-- "kerf/kerfref05.check"
noncomputable def g99_C2 (call : Call) (lf : Nat) (σ : St) (h : AHeap) (k : KS) : Option Ans :=
  cIf (σ 27)
  (cFieldAddr 2 (σ 3) fun v67 =>
  cLoad1 (.slc) v67 h fun v70 =>
  cIdxS 3 v70 (σ 10) fun v75 =>
  cLoadA [.int .i64, .slc, .slc] v75 h fun v78 =>
  cCall call 99 [v78, (σ 1), (σ 9)] [(false, [.int .i64]), (false, [.int .i64])] h (fun v85 h86 =>
  cExtract v85 0 fun v91 =>
  cExtract v85 1 fun v94 =>
  cBin EK .add 3 (σ 10) (Go.Value.int Go.IntKind.i64 1) fun v103 =>
  k .normal (updL σ [(10, v103), (29, v103), (28, (σ 10)), (9, v94), (8, v91), (40, v94), (39, v91), (30, v85), (38, v85), (37, (σ 9)), (36, (σ 1)), (35, v78), (34, v75), (33, (σ 10)), (32, v70), (31, v67)]) h86) (fun v83 h84 => k (.panic v83) (updL σ [(37, (σ 9)), (36, (σ 1)), (35, v78), (34, v75), (33, (σ 10)), (32, v70), (31, v67)]) h84))
  (k (.exit 0) σ h)
noncomputable def g99_L1 (call : Call) (lf : Nat) (σ : St) (h : AHeap) (k : KS) : Option Ans :=
  cFieldAddr 2 (σ 3) fun v44 =>
  cLoad1 (.slc) v44 h fun v47 =>
  cLenS v47 fun v50 =>
  cBin EK .lss 3 (σ 10) v50 fun v53 =>
  gd v53
  (cBin EK .eql 3 (σ 8) (Go.Value.int Go.IntKind.i64 0) fun v61 =>
  cPick (Value.bool true) v61 (Go.Value.bool false) fun v64 =>
  g99_C2 call lf (updL σ [(27, v64), (26, v61), (24, (Value.bool true)), (25, (σ 8)), (24, (Value.bool true)), (24, v53), (23, v53), (22, v50), (21, v47), (20, v44), (19, (σ 10))]) h k)
  (cPick (Value.bool false) undef (Go.Value.bool false) fun v108 =>
  g99_C2 call lf (updL σ [(27, v108), (26, undef), (24, (Value.bool false)), (25, undef), (24, (Value.bool false)), (24, v53), (23, v53), (22, v50), (21, v47), (20, v44), (19, (σ 10))]) h k)
  (fun c56 => cPick (Value.tuple c56) undef (Go.Value.bool false) fun v111 =>
  g99_C2 call lf (updL σ [(27, v111), (26, undef), (24, (Value.tuple c56)), (25, undef), (24, (Value.tuple c56)), (24, v53), (23, v53), (22, v50), (21, v47), (20, v44), (19, (σ 10))]) h k)
noncomputable def g99_C3 (call : Call) (lf : Nat) (σ : St) (h : AHeap) (k : KS) : Option Ans :=
  k .ret (updL σ [(7, (σ 9)), (6, (σ 8)), (42, (σ 9)), (41, (σ 8))]) h
noncomputable def g99 (call : Call) (lf : Nat) (σ : St) (h : AHeap) (k : KS) : Option Ans :=
  cNew (σ 0).cells.toList 64 h fun v3 h4 =>
  cBin EK .geq 3 (σ 2) (Go.Value.int Go.IntKind.i64 2048) fun v13 =>
  cIf v13
  (k .ret (updL σ [(7, (σ 2)), (6, (Go.Value.int Go.IntKind.i64 52)), (13, (σ 2)), (12, v13), (11, (σ 2)), (7, (Go.Value.int Go.IntKind.i64 0)), (6, (Go.Value.int Go.IntKind.i64 0)), (3, v3)]) h4)
  (cLoadA [.int .i64, .slc, .slc] v3 h4 fun v22 =>
  cCall call 132 [v22, (σ 1)] [(false, [.int .i64])] h4 (fun v27 h28 =>
  cBin EK .add 3 (σ 2) (Go.Value.int Go.IntKind.i64 1) fun v35 =>
  loopS (g99_L1 call lf) lf (updL σ [(10, (Go.Value.int Go.IntKind.i64 0)), (9, v35), (18, v35), (17, (σ 2)), (8, v27), (16, v27), (15, (σ 1)), (14, v22), (12, v13), (11, (σ 2)), (7, (Go.Value.int Go.IntKind.i64 0)), (6, (Go.Value.int Go.IntKind.i64 0)), (3, v3)]) h28 (hBlk 0 (hSeq (fun σ h => g99_C3 call lf σ h k) k))) (fun v25 h26 => k (.panic v25) (updL σ [(15, (σ 1)), (14, v22), (12, v13), (11, (σ 2)), (7, (Go.Value.int Go.IntKind.i64 0)), (6, (Go.Value.int Go.IntKind.i64 0)), (3, v3)]) h26))
theorem g99_eq (call : Call) (lf : Nat) (args : List Value) (h : AHeap) : evB EK call lf 99 args h = g99 call lf (st0 args) h (finS EK [.tmp 6, .tmp 7]) := by kernel_rfl
theorem c99 (call : Call) (args : List Value) (h : AHeap) (K kp : K2) : evCall EK call 99 args h K kp = cCall call 99 args [(false, [.int .i64]), (false, [.int .i64])] h K kp := by kernel_rfl
-- "(*kerf/kerfref06.Lay).state"
noncomputable def g100 (call : Call) (lf : Nat) (σ : St) (h : AHeap) (k : KS) : Option Ans :=
  cNilCheck (σ 0) fun v9 =>
  cFieldAddr 0 v9 fun v12 =>
  cLoad1 (.slc) v12 h fun v15 =>
  cBuild [] [(.slice none 0 0), (.slice none 0 0)] fun v18 =>
  cBuildS 102 1 [(0, 2, v18)] [(.slice none 0 0), (.slice none 0 0)] h fun v21 h22 =>
  cAppend 102 2 48 v15 v21 h22 fun v25 h26 =>
  cNilCheck (σ 0) fun v29 =>
  cFieldAddr 0 v29 fun v32 =>
  cStore 1 v32 v25 h26 fun h35 =>
  cNilCheck (σ 0) fun v40 =>
  cFieldAddr 0 v40 fun v43 =>
  cLoad1 (.slc) v43 h35 fun v46 =>
  cLenS v46 fun v49 =>
  cBin EK .sub 3 v49 (Go.Value.int Go.IntKind.i64 1) fun v52 =>
  k .ret (updL σ [(2, v52), (18, v52), (17, v49), (16, v46), (15, v43), (14, v40), (13, (σ 0)), (12, v32), (11, v29), (10, v25), (9, v21), (8, v18), (7, v15), (6, v12), (5, v9), (4, (σ 0)), (3, (σ 0)), (2, (Go.Value.int Go.IntKind.i64 0))]) h35
theorem g100_eq (call : Call) (lf : Nat) (args : List Value) (h : AHeap) : evB EK call lf 100 args h = g100 call lf (st0 args) h (finS EK [.tmp 2]) := by kernel_rfl
theorem c100 (call : Call) (args : List Value) (h : AHeap) (K kp : K2) : evCall EK call 100 args h K kp = cCall call 100 args [(false, [.int .i64])] h K kp := by kernel_rfl
-- "(*kerf/kerfref06.Lay).free"
noncomputable def g101 (call : Call) (lf : Nat) (σ : St) (h : AHeap) (k : KS) : Option Ans :=
  dr (cNilCheck (σ 0) fun v3 =>
  rety v3 h) fun v1 h2 =>
  dr (cFieldAddr 0 v1 fun v6 =>
  rety v6 h2) fun v4 h5 =>
  dr (cLoad1 (.slc) v4 h5 fun v9 =>
  rety v9 h5) fun v7 h8 =>
  dr (cNilCheck (σ 0) fun v12 =>
  rety v12 h8) fun v10 h11 =>
  dr (cFieldAddr 0 v10 fun v15 =>
  rety v15 h11) fun v13 h14 =>
  dr (cLoad1 (.slc) v13 h14 fun v18 =>
  rety v18 h14) fun v16 h17 =>
  dr (cIdxS 2 v16 (σ 1) fun v21 =>
  rety v21 h17) fun v19 h20 =>
  dr (cFieldAddr 1 v19 fun v24 =>
  rety v24 h20) fun v22 h23 =>
  dr (cLoad1 (.slc) v22 h23 fun v27 =>
  rety v27 h23) fun v25 h26 =>
  dr (cBuildS 3 1 [(0, 1, (σ 2))] [(.int .i64 (0))] h26 fun v30 h31 =>
  rety v30 h31) fun v28 h29 =>
  hk (ob (fillP [(0, 1, (σ 2))] [(.int .i64 (0))]) fun l32 => some (l32, 3)) v28 h29 (
  rk (rety (σ 2) h29) (σ 2) (
  rk (cLoad1 (.slc) v22 h29 fun v33 =>
  rety v33 h29) v25 (
  rk (cFieldAddr 1 v19 fun v34 =>
  rety v34 h29) v22 (
  rk (cIdxS 2 v16 (σ 1) fun v35 =>
  rety v35 h29) v19 (
  rk (rety (σ 1) h29) (σ 1) (
  rk (cLoad1 (.slc) v13 h29 fun v36 =>
  rety v36 h29) v16 (
  rk (cFieldAddr 0 v10 fun v37 =>
  rety v37 h29) v13 (
  rk (cNilCheck (σ 0) fun v38 =>
  rety v38 h29) v10 (
  rk (rety (σ 0) h29) (σ 0) (
  rk (rety (σ 1) h29) (σ 1) (
  rk (cLoad1 (.slc) v4 h29 fun v39 =>
  rety v39 h29) v7 (
  rk (cFieldAddr 0 v1 fun v40 =>
  rety v40 h29) v4 (
  rk (cNilCheck (σ 0) fun v41 =>
  rety v41 h29) v1 (
  rk (rety (σ 0) h29) (σ 0) (
  dr (cAppend 3 1 8 v25 v28 h29 fun v44 h45 =>
  rety v44 h45) fun v42 h43 =>
  rk (rety (σ 1) h43) (σ 1) (
  rk (cLoad1 (.slc) v4 h43 fun v46 =>
  rety v46 h43) v7 (
  rk (cFieldAddr 0 v1 fun v47 =>
  rety v47 h43) v4 (
  rk (cNilCheck (σ 0) fun v48 =>
  rety v48 h43) v1 (
  rk (rety (σ 0) h43) (σ 0) (
  dr (cIdxS 2 v7 (σ 1) fun v51 =>
  rety v51 h43) fun v49 h50 =>
  dr (cFieldAddr 1 v49 fun v54 =>
  rety v54 h50) fun v52 h53 =>
  dr (cStore 1 v52 v42 h53 fun h57 =>
  rety undef h57) fun v55 h56 =>
  k .normal (updL σ [(23, v52), (22, v49), (21, v42), (20, v28), (19, (σ 2)), (18, v25), (17, v22), (16, v19), (15, (σ 1)), (14, v16), (13, v13), (12, v10), (11, (σ 0)), (10, (σ 1)), (9, v7), (8, v4), (7, v1), (6, (σ 0))]) h56))))))))))))))))))))
theorem g101_eq (call : Call) (lf : Nat) (args : List Value) (h : AHeap) : evB EK call lf 101 args h = g101 call lf (st0 args) h (finS EK []) := by kernel_rfl
theorem c101 (call : Call) (args : List Value) (h : AHeap) (K kp : K2) : evCall EK call 101 args h K kp = cCall call 101 args [] h K kp := by kernel_rfl
-- "(*kerf/kerfref06.Lay).or"
noncomputable def g102_L1 (call : Call) (lf : Nat) (σ : St) (h : AHeap) (k : KS) : Option Ans :=
  cFieldAddr 2 (σ 3) fun v27 =>
  cLoad1 (.slc) v27 h fun v30 =>
  cLenS v30 fun v33 =>
  cBin EK .lss 3 (σ 9) v33 fun v36 =>
  cIf v36
  (cFieldAddr 2 (σ 3) fun v41 =>
  cLoad1 (.slc) v41 h fun v44 =>
  cIdxS 3 v44 (σ 9) fun v49 =>
  cLoadA [.int .i64, .slc, .slc] v49 h fun v52 =>
  cCall call 63 [(σ 0), v52] [(false, [.int .i64]), (false, [.int .i64])] h (fun v55 h56 =>
  cExtract v55 0 fun v61 =>
  cExtract v55 1 fun v64 =>
  cBuildS 3 1 [(0, 1, v61)] [(.int .i64 (0))] h56 fun v75 h76 =>
  cAppend 3 1 8 (σ 7) v75 h76 fun v79 h80 =>
  cBuildS 3 1 [(0, 1, v64)] [(.int .i64 (0))] h80 fun v89 h90 =>
  cAppend 3 1 8 (σ 8) v89 h90 fun v93 h94 =>
  cBin EK .add 3 (σ 9) (Go.Value.int Go.IntKind.i64 1) fun v101 =>
  k .normal (updL σ [(9, v101), (22, v101), (21, (σ 9)), (8, v93), (40, v93), (39, v89), (38, v64), (37, (σ 8)), (7, v79), (36, v79), (35, v75), (34, v61), (33, (σ 7)), (11, v64), (10, v61), (32, v64), (31, v61), (23, v55), (30, v55), (29, v52), (28, v49), (27, (σ 9)), (26, v44), (25, v41), (24, (σ 0)), (20, v36), (19, v33), (18, v30), (17, v27), (16, (σ 9))]) h94) (fun v53 h54 => k (.panic v53) (updL σ [(29, v52), (28, v49), (27, (σ 9)), (26, v44), (25, v41), (24, (σ 0)), (20, v36), (19, v33), (18, v30), (17, v27), (16, (σ 9))]) h54))
  (k (.exit 0) (updL σ [(20, v36), (19, v33), (18, v30), (17, v27), (16, (σ 9))]) h)
noncomputable def g102_L3 (call : Call) (lf : Nat) (σ : St) (h : AHeap) (k : KS) : Option Ans :=
  cLenS (σ 7) fun v120 =>
  cBin EK .lss 3 (σ 13) v120 fun v123 =>
  cIf v123
  (cIdxS 1 (σ 7) (σ 13) fun v134 =>
  cLoad1 (.int .i64) v134 h fun v137 =>
  cCall call 101 [(σ 0), (σ 6), v137] [] h (fun v140 h141 =>
  cIdxS 1 (σ 8) (σ 13) fun v150 =>
  cLoad1 (.int .i64) v150 h141 fun v153 =>
  cCall call 101 [(σ 0), v153, (σ 12)] [] h141 (fun v158 h159 =>
  cBin EK .add 3 (σ 13) (Go.Value.int Go.IntKind.i64 1) fun v164 =>
  k .normal (updL σ [(13, v164), (48, v164), (47, (σ 13)), (62, v158), (61, (σ 12)), (60, v153), (59, v150), (58, (σ 13)), (57, (σ 8)), (56, (σ 0)), (55, v140), (54, v137), (53, v134), (52, (σ 13)), (51, (σ 7)), (50, (σ 6)), (49, (σ 0)), (46, v123), (45, v120), (44, (σ 7)), (43, (σ 13))]) h159) (fun v156 h157 => k (.panic v156) (updL σ [(61, (σ 12)), (60, v153), (59, v150), (58, (σ 13)), (57, (σ 8)), (56, (σ 0)), (55, v140), (54, v137), (53, v134), (52, (σ 13)), (51, (σ 7)), (50, (σ 6)), (49, (σ 0)), (46, v123), (45, v120), (44, (σ 7)), (43, (σ 13))]) h157)) (fun v138 h139 => k (.panic v138) (updL σ [(54, v137), (53, v134), (52, (σ 13)), (51, (σ 7)), (50, (σ 6)), (49, (σ 0)), (46, v123), (45, v120), (44, (σ 7)), (43, (σ 13))]) h139))
  (k (.exit 2) (updL σ [(46, v123), (45, v120), (44, (σ 7)), (43, (σ 13))]) h)
noncomputable def g102_C4 (call : Call) (lf : Nat) (σ : St) (h : AHeap) (k : KS) : Option Ans :=
  k .ret (updL σ [(5, (σ 12)), (4, (σ 6)), (64, (σ 12)), (63, (σ 6))]) h
noncomputable def g102_C2 (call : Call) (lf : Nat) (σ : St) (h : AHeap) (k : KS) : Option Ans :=
  cCall call 100 [(σ 0)] [(false, [.int .i64])] h (fun v108 h109 =>
  loopS (g102_L3 call lf) lf (updL σ [(13, (Go.Value.int Go.IntKind.i64 0)), (12, v108), (42, v108), (41, (σ 0))]) h109 (hBlk 2 (hSeq (fun σ h => g102_C4 call lf σ h k) k))) (fun v106 h107 => k (.panic v106) (updL σ [(41, (σ 0))]) h107)
noncomputable def g102 (call : Call) (lf : Nat) (σ : St) (h : AHeap) (k : KS) : Option Ans :=
  cNew (σ 1).cells.toList 64 h fun v3 h4 =>
  cCall call 100 [(σ 0)] [(false, [.int .i64])] h4 (fun v13 h14 =>
  loopS (g102_L1 call lf) lf (updL σ [(9, (Go.Value.int Go.IntKind.i64 0)), (8, (Go.Value.slice none 0 0)), (7, (Go.Value.slice none 0 0)), (6, v13), (15, v13), (14, (σ 0)), (5, (Go.Value.int Go.IntKind.i64 0)), (4, (Go.Value.int Go.IntKind.i64 0)), (3, v3)]) h14 (hBlk 0 (hSeq (fun σ h => g102_C2 call lf σ h k) k))) (fun v11 h12 => k (.panic v11) (updL σ [(14, (σ 0)), (5, (Go.Value.int Go.IntKind.i64 0)), (4, (Go.Value.int Go.IntKind.i64 0)), (3, v3)]) h12)
theorem g102_eq (call : Call) (lf : Nat) (args : List Value) (h : AHeap) : evB EK call lf 102 args h = g102 call lf (st0 args) h (finS EK [.tmp 4, .tmp 5]) := by kernel_rfl
theorem c102 (call : Call) (args : List Value) (h : AHeap) (K kp : K2) : evCall EK call 102 args h K kp = cCall call 102 args [(false, [.int .i64]), (false, [.int .i64])] h K kp := by kernel_rfl
-- "kerf/pattern.rises"
noncomputable def g131_C2 (call : Call) (lf : Nat) (σ : St) (h : AHeap) (k : KS) : Option Ans :=
  cIf (σ 33)
  (k .ret (updL σ [(4, (Go.Value.bool false))]) h)
  (cBin EK .add 3 (σ 9) (Go.Value.int Go.IntKind.i64 1) fun v65 =>
  k .normal (updL σ [(9, v65), (34, v65)]) h)
noncomputable def g131_L1 (call : Call) (lf : Nat) (σ : St) (h : AHeap) (k : KS) : Option Ans :=
  cBin EK .lss 3 (σ 9) (σ 8) fun v12 =>
  cIf v12
  (cIdxS 1 (σ 7) (σ 9) fun v17 =>
  cLoad1 (.int .i64) v17 h fun v20 =>
  cBin EK .lss 3 v20 (Go.Value.int Go.IntKind.i64 0) fun v29 =>
  gd v29
  (cPick (Value.bool true) (Go.Value.bool true) undef fun v35 =>
  gd v35
  (gd undef
  (cBin EK .sub 3 (σ 9) (Go.Value.int Go.IntKind.i64 1) fun v46 =>
  cIdxS 1 (σ 0) v46 fun v49 =>
  cLoad1 (.int .i64) v49 h fun v52 =>
  cBin EK .geq 3 v52 v20 fun v57 =>
  cPick (Value.bool true) (Go.Value.bool true) undef fun v60 =>
  g131_C2 call lf (updL σ [(33, v60), (32, undef), (21, (Value.bool true)), (31, v57), (24, (Value.bool true)), (30, v20), (24, (Value.bool true)), (29, v52), (24, (Value.bool true)), (28, v49), (24, (Value.bool true)), (27, v46), (24, (Value.bool true)), (26, (σ 9)), (24, (Value.bool true)), (25, (σ 0)), (24, (Value.bool true)), (24, undef), (21, (Value.bool true)), (23, undef), (21, (Value.bool true)), (22, undef), (21, (Value.bool true)), (21, v35), (20, v35), (19, undef), (16, (Value.bool true)), (18, undef), (16, (Value.bool true)), (17, undef), (16, (Value.bool true)), (16, v29), (15, v29), (14, v20), (6, v20), (5, (σ 9)), (13, v20), (12, v17), (11, (σ 9)), (10, v12)]) h k)
  (cPick (Value.bool true) (Go.Value.bool true) undef fun v70 =>
  g131_C2 call lf (updL σ [(33, v70), (32, undef), (21, (Value.bool true)), (31, undef), (24, (Value.bool false)), (30, undef), (24, (Value.bool false)), (29, undef), (24, (Value.bool false)), (28, undef), (24, (Value.bool false)), (27, undef), (24, (Value.bool false)), (26, undef), (24, (Value.bool false)), (25, undef), (24, (Value.bool false)), (24, undef), (21, (Value.bool true)), (23, undef), (21, (Value.bool true)), (22, undef), (21, (Value.bool true)), (21, v35), (20, v35), (19, undef), (16, (Value.bool true)), (18, undef), (16, (Value.bool true)), (17, undef), (16, (Value.bool true)), (16, v29), (15, v29), (14, v20), (6, v20), (5, (σ 9)), (13, v20), (12, v17), (11, (σ 9)), (10, v12)]) h k)
  (fun c39 => cPick (Value.bool true) (Go.Value.bool true) undef fun v73 =>
  g131_C2 call lf (updL σ [(33, v73), (32, undef), (21, (Value.bool true)), (31, undef), (24, (Value.tuple c39)), (30, undef), (24, (Value.tuple c39)), (29, undef), (24, (Value.tuple c39)), (28, undef), (24, (Value.tuple c39)), (27, undef), (24, (Value.tuple c39)), (26, undef), (24, (Value.tuple c39)), (25, undef), (24, (Value.tuple c39)), (24, undef), (21, (Value.bool true)), (23, undef), (21, (Value.bool true)), (22, undef), (21, (Value.bool true)), (21, v35), (20, v35), (19, undef), (16, (Value.bool true)), (18, undef), (16, (Value.bool true)), (17, undef), (16, (Value.bool true)), (16, v29), (15, v29), (14, v20), (6, v20), (5, (σ 9)), (13, v20), (12, v17), (11, (σ 9)), (10, v12)]) h k))
  (cBin EK .gtr 3 (σ 9) (Go.Value.int Go.IntKind.i64 0) fun v78 =>
  gd v78
  (cBin EK .sub 3 (σ 9) (Go.Value.int Go.IntKind.i64 1) fun v88 =>
  cIdxS 1 (σ 0) v88 fun v91 =>
  cLoad1 (.int .i64) v91 h fun v94 =>
  cBin EK .geq 3 v94 v20 fun v99 =>
  cPick (Value.bool true) v99 (Go.Value.bool false) fun v102 =>
  cPick (Value.bool false) (Go.Value.bool true) v102 fun v105 =>
  g131_C2 call lf (updL σ [(33, v105), (32, v102), (21, (Value.bool false)), (31, v99), (24, (Value.bool true)), (30, v20), (24, (Value.bool true)), (29, v94), (24, (Value.bool true)), (28, v91), (24, (Value.bool true)), (27, v88), (24, (Value.bool true)), (26, (σ 9)), (24, (Value.bool true)), (25, (σ 0)), (24, (Value.bool true)), (24, v78), (21, (Value.bool false)), (23, v78), (21, (Value.bool false)), (22, (σ 9)), (21, (Value.bool false)), (21, v35), (20, v35), (19, undef), (16, (Value.bool true)), (18, undef), (16, (Value.bool true)), (17, undef), (16, (Value.bool true)), (16, v29), (15, v29), (14, v20), (6, v20), (5, (σ 9)), (13, v20), (12, v17), (11, (σ 9)), (10, v12)]) h k)
  (cPick (Value.bool false) undef (Go.Value.bool false) fun v108 =>
  cPick (Value.bool false) (Go.Value.bool true) v108 fun v111 =>
  g131_C2 call lf (updL σ [(33, v111), (32, v108), (21, (Value.bool false)), (31, undef), (24, (Value.bool false)), (30, undef), (24, (Value.bool false)), (29, undef), (24, (Value.bool false)), (28, undef), (24, (Value.bool false)), (27, undef), (24, (Value.bool false)), (26, undef), (24, (Value.bool false)), (25, undef), (24, (Value.bool false)), (24, v78), (21, (Value.bool false)), (23, v78), (21, (Value.bool false)), (22, (σ 9)), (21, (Value.bool false)), (21, v35), (20, v35), (19, undef), (16, (Value.bool true)), (18, undef), (16, (Value.bool true)), (17, undef), (16, (Value.bool true)), (16, v29), (15, v29), (14, v20), (6, v20), (5, (σ 9)), (13, v20), (12, v17), (11, (σ 9)), (10, v12)]) h k)
  (fun c81 => cPick (Value.tuple c81) undef (Go.Value.bool false) fun v114 =>
  cPick (Value.bool false) (Go.Value.bool true) v114 fun v117 =>
  g131_C2 call lf (updL σ [(33, v117), (32, v114), (21, (Value.bool false)), (31, undef), (24, (Value.tuple c81)), (30, undef), (24, (Value.tuple c81)), (29, undef), (24, (Value.tuple c81)), (28, undef), (24, (Value.tuple c81)), (27, undef), (24, (Value.tuple c81)), (26, undef), (24, (Value.tuple c81)), (25, undef), (24, (Value.tuple c81)), (24, v78), (21, (Value.bool false)), (23, v78), (21, (Value.bool false)), (22, (σ 9)), (21, (Value.bool false)), (21, v35), (20, v35), (19, undef), (16, (Value.bool true)), (18, undef), (16, (Value.bool true)), (17, undef), (16, (Value.bool true)), (16, v29), (15, v29), (14, v20), (6, v20), (5, (σ 9)), (13, v20), (12, v17), (11, (σ 9)), (10, v12)]) h k))
  (fun c38 => gd undef
  (cBin EK .sub 3 (σ 9) (Go.Value.int Go.IntKind.i64 1) fun v125 =>
  cIdxS 1 (σ 0) v125 fun v128 =>
  cLoad1 (.int .i64) v128 h fun v131 =>
  cBin EK .geq 3 v131 v20 fun v136 =>
  cPick (Value.tuple c38) (Go.Value.bool true) undef fun v139 =>
  g131_C2 call lf (updL σ [(33, v139), (32, undef), (21, (Value.tuple c38)), (31, v136), (24, (Value.bool true)), (30, v20), (24, (Value.bool true)), (29, v131), (24, (Value.bool true)), (28, v128), (24, (Value.bool true)), (27, v125), (24, (Value.bool true)), (26, (σ 9)), (24, (Value.bool true)), (25, (σ 0)), (24, (Value.bool true)), (24, undef), (21, (Value.tuple c38)), (23, undef), (21, (Value.tuple c38)), (22, undef), (21, (Value.tuple c38)), (21, v35), (20, v35), (19, undef), (16, (Value.bool true)), (18, undef), (16, (Value.bool true)), (17, undef), (16, (Value.bool true)), (16, v29), (15, v29), (14, v20), (6, v20), (5, (σ 9)), (13, v20), (12, v17), (11, (σ 9)), (10, v12)]) h k)
  (cPick (Value.tuple c38) (Go.Value.bool true) undef fun v142 =>
  g131_C2 call lf (updL σ [(33, v142), (32, undef), (21, (Value.tuple c38)), (31, undef), (24, (Value.bool false)), (30, undef), (24, (Value.bool false)), (29, undef), (24, (Value.bool false)), (28, undef), (24, (Value.bool false)), (27, undef), (24, (Value.bool false)), (26, undef), (24, (Value.bool false)), (25, undef), (24, (Value.bool false)), (24, undef), (21, (Value.tuple c38)), (23, undef), (21, (Value.tuple c38)), (22, undef), (21, (Value.tuple c38)), (21, v35), (20, v35), (19, undef), (16, (Value.bool true)), (18, undef), (16, (Value.bool true)), (17, undef), (16, (Value.bool true)), (16, v29), (15, v29), (14, v20), (6, v20), (5, (σ 9)), (13, v20), (12, v17), (11, (σ 9)), (10, v12)]) h k)
  (fun c118 => cPick (Value.tuple c38) (Go.Value.bool true) undef fun v145 =>
  g131_C2 call lf (updL σ [(33, v145), (32, undef), (21, (Value.tuple c38)), (31, undef), (24, (Value.tuple c118)), (30, undef), (24, (Value.tuple c118)), (29, undef), (24, (Value.tuple c118)), (28, undef), (24, (Value.tuple c118)), (27, undef), (24, (Value.tuple c118)), (26, undef), (24, (Value.tuple c118)), (25, undef), (24, (Value.tuple c118)), (24, undef), (21, (Value.tuple c38)), (23, undef), (21, (Value.tuple c38)), (22, undef), (21, (Value.tuple c38)), (21, v35), (20, v35), (19, undef), (16, (Value.bool true)), (18, undef), (16, (Value.bool true)), (17, undef), (16, (Value.bool true)), (16, v29), (15, v29), (14, v20), (6, v20), (5, (σ 9)), (13, v20), (12, v17), (11, (σ 9)), (10, v12)]) h k)))
  (cBin EK .geq 3 v20 (σ 1) fun v152 =>
  cPick (Value.bool false) (Go.Value.bool true) v152 fun v155 =>
  gd v155
  (gd undef
  (cBin EK .sub 3 (σ 9) (Go.Value.int Go.IntKind.i64 1) fun v166 =>
  cIdxS 1 (σ 0) v166 fun v169 =>
  cLoad1 (.int .i64) v169 h fun v172 =>
  cBin EK .geq 3 v172 v20 fun v177 =>
  cPick (Value.bool true) (Go.Value.bool true) undef fun v180 =>
  g131_C2 call lf (updL σ [(33, v180), (32, undef), (21, (Value.bool true)), (31, v177), (24, (Value.bool true)), (30, v20), (24, (Value.bool true)), (29, v172), (24, (Value.bool true)), (28, v169), (24, (Value.bool true)), (27, v166), (24, (Value.bool true)), (26, (σ 9)), (24, (Value.bool true)), (25, (σ 0)), (24, (Value.bool true)), (24, undef), (21, (Value.bool true)), (23, undef), (21, (Value.bool true)), (22, undef), (21, (Value.bool true)), (21, v155), (20, v155), (19, v152), (16, (Value.bool false)), (18, (σ 1)), (16, (Value.bool false)), (17, v20), (16, (Value.bool false)), (16, v29), (15, v29), (14, v20), (6, v20), (5, (σ 9)), (13, v20), (12, v17), (11, (σ 9)), (10, v12)]) h k)
  (cPick (Value.bool true) (Go.Value.bool true) undef fun v183 =>
  g131_C2 call lf (updL σ [(33, v183), (32, undef), (21, (Value.bool true)), (31, undef), (24, (Value.bool false)), (30, undef), (24, (Value.bool false)), (29, undef), (24, (Value.bool false)), (28, undef), (24, (Value.bool false)), (27, undef), (24, (Value.bool false)), (26, undef), (24, (Value.bool false)), (25, undef), (24, (Value.bool false)), (24, undef), (21, (Value.bool true)), (23, undef), (21, (Value.bool true)), (22, undef), (21, (Value.bool true)), (21, v155), (20, v155), (19, v152), (16, (Value.bool false)), (18, (σ 1)), (16, (Value.bool false)), (17, v20), (16, (Value.bool false)), (16, v29), (15, v29), (14, v20), (6, v20), (5, (σ 9)), (13, v20), (12, v17), (11, (σ 9)), (10, v12)]) h k)
  (fun c159 => cPick (Value.bool true) (Go.Value.bool true) undef fun v186 =>
  g131_C2 call lf (updL σ [(33, v186), (32, undef), (21, (Value.bool true)), (31, undef), (24, (Value.tuple c159)), (30, undef), (24, (Value.tuple c159)), (29, undef), (24, (Value.tuple c159)), (28, undef), (24, (Value.tuple c159)), (27, undef), (24, (Value.tuple c159)), (26, undef), (24, (Value.tuple c159)), (25, undef), (24, (Value.tuple c159)), (24, undef), (21, (Value.bool true)), (23, undef), (21, (Value.bool true)), (22, undef), (21, (Value.bool true)), (21, v155), (20, v155), (19, v152), (16, (Value.bool false)), (18, (σ 1)), (16, (Value.bool false)), (17, v20), (16, (Value.bool false)), (16, v29), (15, v29), (14, v20), (6, v20), (5, (σ 9)), (13, v20), (12, v17), (11, (σ 9)), (10, v12)]) h k))
  (cBin EK .gtr 3 (σ 9) (Go.Value.int Go.IntKind.i64 0) fun v191 =>
  gd v191
  (cBin EK .sub 3 (σ 9) (Go.Value.int Go.IntKind.i64 1) fun v201 =>
  cIdxS 1 (σ 0) v201 fun v204 =>
  cLoad1 (.int .i64) v204 h fun v207 =>
  cBin EK .geq 3 v207 v20 fun v212 =>
  cPick (Value.bool true) v212 (Go.Value.bool false) fun v215 =>
  cPick (Value.bool false) (Go.Value.bool true) v215 fun v218 =>
  g131_C2 call lf (updL σ [(33, v218), (32, v215), (21, (Value.bool false)), (31, v212), (24, (Value.bool true)), (30, v20), (24, (Value.bool true)), (29, v207), (24, (Value.bool true)), (28, v204), (24, (Value.bool true)), (27, v201), (24, (Value.bool true)), (26, (σ 9)), (24, (Value.bool true)), (25, (σ 0)), (24, (Value.bool true)), (24, v191), (21, (Value.bool false)), (23, v191), (21, (Value.bool false)), (22, (σ 9)), (21, (Value.bool false)), (21, v155), (20, v155), (19, v152), (16, (Value.bool false)), (18, (σ 1)), (16, (Value.bool false)), (17, v20), (16, (Value.bool false)), (16, v29), (15, v29), (14, v20), (6, v20), (5, (σ 9)), (13, v20), (12, v17), (11, (σ 9)), (10, v12)]) h k)
  (cPick (Value.bool false) undef (Go.Value.bool false) fun v221 =>
  cPick (Value.bool false) (Go.Value.bool true) v221 fun v224 =>
  g131_C2 call lf (updL σ [(33, v224), (32, v221), (21, (Value.bool false)), (31, undef), (24, (Value.bool false)), (30, undef), (24, (Value.bool false)), (29, undef), (24, (Value.bool false)), (28, undef), (24, (Value.bool false)), (27, undef), (24, (Value.bool false)), (26, undef), (24, (Value.bool false)), (25, undef), (24, (Value.bool false)), (24, v191), (21, (Value.bool false)), (23, v191), (21, (Value.bool false)), (22, (σ 9)), (21, (Value.bool false)), (21, v155), (20, v155), (19, v152), (16, (Value.bool false)), (18, (σ 1)), (16, (Value.bool false)), (17, v20), (16, (Value.bool false)), (16, v29), (15, v29), (14, v20), (6, v20), (5, (σ 9)), (13, v20), (12, v17), (11, (σ 9)), (10, v12)]) h k)
  (fun c194 => cPick (Value.tuple c194) undef (Go.Value.bool false) fun v227 =>
  cPick (Value.bool false) (Go.Value.bool true) v227 fun v230 =>
  g131_C2 call lf (updL σ [(33, v230), (32, v227), (21, (Value.bool false)), (31, undef), (24, (Value.tuple c194)), (30, undef), (24, (Value.tuple c194)), (29, undef), (24, (Value.tuple c194)), (28, undef), (24, (Value.tuple c194)), (27, undef), (24, (Value.tuple c194)), (26, undef), (24, (Value.tuple c194)), (25, undef), (24, (Value.tuple c194)), (24, v191), (21, (Value.bool false)), (23, v191), (21, (Value.bool false)), (22, (σ 9)), (21, (Value.bool false)), (21, v155), (20, v155), (19, v152), (16, (Value.bool false)), (18, (σ 1)), (16, (Value.bool false)), (17, v20), (16, (Value.bool false)), (16, v29), (15, v29), (14, v20), (6, v20), (5, (σ 9)), (13, v20), (12, v17), (11, (σ 9)), (10, v12)]) h k))
  (fun c158 => gd undef
  (cBin EK .sub 3 (σ 9) (Go.Value.int Go.IntKind.i64 1) fun v238 =>
  cIdxS 1 (σ 0) v238 fun v241 =>
  cLoad1 (.int .i64) v241 h fun v244 =>
  cBin EK .geq 3 v244 v20 fun v249 =>
  cPick (Value.tuple c158) (Go.Value.bool true) undef fun v252 =>
  g131_C2 call lf (updL σ [(33, v252), (32, undef), (21, (Value.tuple c158)), (31, v249), (24, (Value.bool true)), (30, v20), (24, (Value.bool true)), (29, v244), (24, (Value.bool true)), (28, v241), (24, (Value.bool true)), (27, v238), (24, (Value.bool true)), (26, (σ 9)), (24, (Value.bool true)), (25, (σ 0)), (24, (Value.bool true)), (24, undef), (21, (Value.tuple c158)), (23, undef), (21, (Value.tuple c158)), (22, undef), (21, (Value.tuple c158)), (21, v155), (20, v155), (19, v152), (16, (Value.bool false)), (18, (σ 1)), (16, (Value.bool false)), (17, v20), (16, (Value.bool false)), (16, v29), (15, v29), (14, v20), (6, v20), (5, (σ 9)), (13, v20), (12, v17), (11, (σ 9)), (10, v12)]) h k)
  (cPick (Value.tuple c158) (Go.Value.bool true) undef fun v255 =>
  g131_C2 call lf (updL σ [(33, v255), (32, undef), (21, (Value.tuple c158)), (31, undef), (24, (Value.bool false)), (30, undef), (24, (Value.bool false)), (29, undef), (24, (Value.bool false)), (28, undef), (24, (Value.bool false)), (27, undef), (24, (Value.bool false)), (26, undef), (24, (Value.bool false)), (25, undef), (24, (Value.bool false)), (24, undef), (21, (Value.tuple c158)), (23, undef), (21, (Value.tuple c158)), (22, undef), (21, (Value.tuple c158)), (21, v155), (20, v155), (19, v152), (16, (Value.bool false)), (18, (σ 1)), (16, (Value.bool false)), (17, v20), (16, (Value.bool false)), (16, v29), (15, v29), (14, v20), (6, v20), (5, (σ 9)), (13, v20), (12, v17), (11, (σ 9)), (10, v12)]) h k)
  (fun c231 => cPick (Value.tuple c158) (Go.Value.bool true) undef fun v258 =>
  g131_C2 call lf (updL σ [(33, v258), (32, undef), (21, (Value.tuple c158)), (31, undef), (24, (Value.tuple c231)), (30, undef), (24, (Value.tuple c231)), (29, undef), (24, (Value.tuple c231)), (28, undef), (24, (Value.tuple c231)), (27, undef), (24, (Value.tuple c231)), (26, undef), (24, (Value.tuple c231)), (25, undef), (24, (Value.tuple c231)), (24, undef), (21, (Value.tuple c158)), (23, undef), (21, (Value.tuple c158)), (22, undef), (21, (Value.tuple c158)), (21, v155), (20, v155), (19, v152), (16, (Value.bool false)), (18, (σ 1)), (16, (Value.bool false)), (17, v20), (16, (Value.bool false)), (16, v29), (15, v29), (14, v20), (6, v20), (5, (σ 9)), (13, v20), (12, v17), (11, (σ 9)), (10, v12)]) h k)))
  (fun c32 => cPick (Value.tuple c32) (Go.Value.bool true) undef fun v261 =>
  gd v261
  (gd undef
  (cBin EK .sub 3 (σ 9) (Go.Value.int Go.IntKind.i64 1) fun v272 =>
  cIdxS 1 (σ 0) v272 fun v275 =>
  cLoad1 (.int .i64) v275 h fun v278 =>
  cBin EK .geq 3 v278 v20 fun v283 =>
  cPick (Value.bool true) (Go.Value.bool true) undef fun v286 =>
  g131_C2 call lf (updL σ [(33, v286), (32, undef), (21, (Value.bool true)), (31, v283), (24, (Value.bool true)), (30, v20), (24, (Value.bool true)), (29, v278), (24, (Value.bool true)), (28, v275), (24, (Value.bool true)), (27, v272), (24, (Value.bool true)), (26, (σ 9)), (24, (Value.bool true)), (25, (σ 0)), (24, (Value.bool true)), (24, undef), (21, (Value.bool true)), (23, undef), (21, (Value.bool true)), (22, undef), (21, (Value.bool true)), (21, v261), (20, v261), (19, undef), (16, (Value.tuple c32)), (18, undef), (16, (Value.tuple c32)), (17, undef), (16, (Value.tuple c32)), (16, v29), (15, v29), (14, v20), (6, v20), (5, (σ 9)), (13, v20), (12, v17), (11, (σ 9)), (10, v12)]) h k)
  (cPick (Value.bool true) (Go.Value.bool true) undef fun v289 =>
  g131_C2 call lf (updL σ [(33, v289), (32, undef), (21, (Value.bool true)), (31, undef), (24, (Value.bool false)), (30, undef), (24, (Value.bool false)), (29, undef), (24, (Value.bool false)), (28, undef), (24, (Value.bool false)), (27, undef), (24, (Value.bool false)), (26, undef), (24, (Value.bool false)), (25, undef), (24, (Value.bool false)), (24, undef), (21, (Value.bool true)), (23, undef), (21, (Value.bool true)), (22, undef), (21, (Value.bool true)), (21, v261), (20, v261), (19, undef), (16, (Value.tuple c32)), (18, undef), (16, (Value.tuple c32)), (17, undef), (16, (Value.tuple c32)), (16, v29), (15, v29), (14, v20), (6, v20), (5, (σ 9)), (13, v20), (12, v17), (11, (σ 9)), (10, v12)]) h k)
  (fun c265 => cPick (Value.bool true) (Go.Value.bool true) undef fun v292 =>
  g131_C2 call lf (updL σ [(33, v292), (32, undef), (21, (Value.bool true)), (31, undef), (24, (Value.tuple c265)), (30, undef), (24, (Value.tuple c265)), (29, undef), (24, (Value.tuple c265)), (28, undef), (24, (Value.tuple c265)), (27, undef), (24, (Value.tuple c265)), (26, undef), (24, (Value.tuple c265)), (25, undef), (24, (Value.tuple c265)), (24, undef), (21, (Value.bool true)), (23, undef), (21, (Value.bool true)), (22, undef), (21, (Value.bool true)), (21, v261), (20, v261), (19, undef), (16, (Value.tuple c32)), (18, undef), (16, (Value.tuple c32)), (17, undef), (16, (Value.tuple c32)), (16, v29), (15, v29), (14, v20), (6, v20), (5, (σ 9)), (13, v20), (12, v17), (11, (σ 9)), (10, v12)]) h k))
  (cBin EK .gtr 3 (σ 9) (Go.Value.int Go.IntKind.i64 0) fun v297 =>
  gd v297
  (cBin EK .sub 3 (σ 9) (Go.Value.int Go.IntKind.i64 1) fun v307 =>
  cIdxS 1 (σ 0) v307 fun v310 =>
  cLoad1 (.int .i64) v310 h fun v313 =>
  cBin EK .geq 3 v313 v20 fun v318 =>
  cPick (Value.bool true) v318 (Go.Value.bool false) fun v321 =>
  cPick (Value.bool false) (Go.Value.bool true) v321 fun v324 =>
  g131_C2 call lf (updL σ [(33, v324), (32, v321), (21, (Value.bool false)), (31, v318), (24, (Value.bool true)), (30, v20), (24, (Value.bool true)), (29, v313), (24, (Value.bool true)), (28, v310), (24, (Value.bool true)), (27, v307), (24, (Value.bool true)), (26, (σ 9)), (24, (Value.bool true)), (25, (σ 0)), (24, (Value.bool true)), (24, v297), (21, (Value.bool false)), (23, v297), (21, (Value.bool false)), (22, (σ 9)), (21, (Value.bool false)), (21, v261), (20, v261), (19, undef), (16, (Value.tuple c32)), (18, undef), (16, (Value.tuple c32)), (17, undef), (16, (Value.tuple c32)), (16, v29), (15, v29), (14, v20), (6, v20), (5, (σ 9)), (13, v20), (12, v17), (11, (σ 9)), (10, v12)]) h k)
  (cPick (Value.bool false) undef (Go.Value.bool false) fun v327 =>
  cPick (Value.bool false) (Go.Value.bool true) v327 fun v330 =>
  g131_C2 call lf (updL σ [(33, v330), (32, v327), (21, (Value.bool false)), (31, undef), (24, (Value.bool false)), (30, undef), (24, (Value.bool false)), (29, undef), (24, (Value.bool false)), (28, undef), (24, (Value.bool false)), (27, undef), (24, (Value.bool false)), (26, undef), (24, (Value.bool false)), (25, undef), (24, (Value.bool false)), (24, v297), (21, (Value.bool false)), (23, v297), (21, (Value.bool false)), (22, (σ 9)), (21, (Value.bool false)), (21, v261), (20, v261), (19, undef), (16, (Value.tuple c32)), (18, undef), (16, (Value.tuple c32)), (17, undef), (16, (Value.tuple c32)), (16, v29), (15, v29), (14, v20), (6, v20), (5, (σ 9)), (13, v20), (12, v17), (11, (σ 9)), (10, v12)]) h k)
  (fun c300 => cPick (Value.tuple c300) undef (Go.Value.bool false) fun v333 =>
  cPick (Value.bool false) (Go.Value.bool true) v333 fun v336 =>
  g131_C2 call lf (updL σ [(33, v336), (32, v333), (21, (Value.bool false)), (31, undef), (24, (Value.tuple c300)), (30, undef), (24, (Value.tuple c300)), (29, undef), (24, (Value.tuple c300)), (28, undef), (24, (Value.tuple c300)), (27, undef), (24, (Value.tuple c300)), (26, undef), (24, (Value.tuple c300)), (25, undef), (24, (Value.tuple c300)), (24, v297), (21, (Value.bool false)), (23, v297), (21, (Value.bool false)), (22, (σ 9)), (21, (Value.bool false)), (21, v261), (20, v261), (19, undef), (16, (Value.tuple c32)), (18, undef), (16, (Value.tuple c32)), (17, undef), (16, (Value.tuple c32)), (16, v29), (15, v29), (14, v20), (6, v20), (5, (σ 9)), (13, v20), (12, v17), (11, (σ 9)), (10, v12)]) h k))
  (fun c264 => gd undef
  (cBin EK .sub 3 (σ 9) (Go.Value.int Go.IntKind.i64 1) fun v344 =>
  cIdxS 1 (σ 0) v344 fun v347 =>
  cLoad1 (.int .i64) v347 h fun v350 =>
  cBin EK .geq 3 v350 v20 fun v355 =>
  cPick (Value.tuple c264) (Go.Value.bool true) undef fun v358 =>
  g131_C2 call lf (updL σ [(33, v358), (32, undef), (21, (Value.tuple c264)), (31, v355), (24, (Value.bool true)), (30, v20), (24, (Value.bool true)), (29, v350), (24, (Value.bool true)), (28, v347), (24, (Value.bool true)), (27, v344), (24, (Value.bool true)), (26, (σ 9)), (24, (Value.bool true)), (25, (σ 0)), (24, (Value.bool true)), (24, undef), (21, (Value.tuple c264)), (23, undef), (21, (Value.tuple c264)), (22, undef), (21, (Value.tuple c264)), (21, v261), (20, v261), (19, undef), (16, (Value.tuple c32)), (18, undef), (16, (Value.tuple c32)), (17, undef), (16, (Value.tuple c32)), (16, v29), (15, v29), (14, v20), (6, v20), (5, (σ 9)), (13, v20), (12, v17), (11, (σ 9)), (10, v12)]) h k)
  (cPick (Value.tuple c264) (Go.Value.bool true) undef fun v361 =>
  g131_C2 call lf (updL σ [(33, v361), (32, undef), (21, (Value.tuple c264)), (31, undef), (24, (Value.bool false)), (30, undef), (24, (Value.bool false)), (29, undef), (24, (Value.bool false)), (28, undef), (24, (Value.bool false)), (27, undef), (24, (Value.bool false)), (26, undef), (24, (Value.bool false)), (25, undef), (24, (Value.bool false)), (24, undef), (21, (Value.tuple c264)), (23, undef), (21, (Value.tuple c264)), (22, undef), (21, (Value.tuple c264)), (21, v261), (20, v261), (19, undef), (16, (Value.tuple c32)), (18, undef), (16, (Value.tuple c32)), (17, undef), (16, (Value.tuple c32)), (16, v29), (15, v29), (14, v20), (6, v20), (5, (σ 9)), (13, v20), (12, v17), (11, (σ 9)), (10, v12)]) h k)
  (fun c337 => cPick (Value.tuple c264) (Go.Value.bool true) undef fun v364 =>
  g131_C2 call lf (updL σ [(33, v364), (32, undef), (21, (Value.tuple c264)), (31, undef), (24, (Value.tuple c337)), (30, undef), (24, (Value.tuple c337)), (29, undef), (24, (Value.tuple c337)), (28, undef), (24, (Value.tuple c337)), (27, undef), (24, (Value.tuple c337)), (26, undef), (24, (Value.tuple c337)), (25, undef), (24, (Value.tuple c337)), (24, undef), (21, (Value.tuple c264)), (23, undef), (21, (Value.tuple c264)), (22, undef), (21, (Value.tuple c264)), (21, v261), (20, v261), (19, undef), (16, (Value.tuple c32)), (18, undef), (16, (Value.tuple c32)), (17, undef), (16, (Value.tuple c32)), (16, v29), (15, v29), (14, v20), (6, v20), (5, (σ 9)), (13, v20), (12, v17), (11, (σ 9)), (10, v12)]) h k))))
  (k (.exit 0) (updL σ [(10, v12)]) h)
noncomputable def g131_C3 (call : Call) (lf : Nat) (σ : St) (h : AHeap) (k : KS) : Option Ans :=
  k .ret (updL σ [(4, (Go.Value.bool true))]) h
noncomputable def g131 (call : Call) (lf : Nat) (σ : St) (h : AHeap) (k : KS) : Option Ans :=
  cLenS (σ 0) fun v7 =>
  loopS (g131_L1 call lf) lf (updL σ [(9, (Go.Value.int Go.IntKind.i64 0)), (8, v7), (7, (σ 0)), (4, (Go.Value.bool false))]) h (hBlk 0 (hSeq (fun σ h => g131_C3 call lf σ h k) k))
theorem g131_eq (call : Call) (lf : Nat) (args : List Value) (h : AHeap) : evB EK call lf 131 args h = g131 call lf (st0 args) h (finS EK [.tmp 4]) := by kernel_rfl
theorem c131 (call : Call) (args : List Value) (h : AHeap) (K kp : K2) : evCall EK call 131 args h K kp = cCall call 131 args [(false, [.bool])] h K kp := by kernel_rfl
-- "kerf/kerfref05.node"
noncomputable def g132_C20 (call : Call) (lf : Nat) (σ : St) (h : AHeap) (k : KS) : Option Ans :=
  cBin EK .add 3 (σ 7) (Go.Value.int Go.IntKind.i64 1) fun v188 =>
  k .normal (updL σ [(7, v188), (60, v188), (59, (σ 7))]) h
theorem g132_C20_eq (call : Call) (lf : Nat) (σ : St) (h : AHeap) (k : KS) : evCodeS EK call (drOf EK 132) lf (cAt [1, 1, 1, 1, 1, 1, 1, 0, 1, 0, 0, 1, 1] (bodyOf Try.f132)) σ h k = g132_C20 call lf σ h k :=
  by kernel_rfl
noncomputable def g132_C19 (call : Call) (lf : Nat) (σ : St) (h : AHeap) (k : KS) : Option Ans :=
  k .ret σ h
theorem g132_C19_eq (call : Call) (lf : Nat) (σ : St) (h : AHeap) (k : KS) : evCodeS EK call (drOf EK 132) lf (cAt [1, 1, 1, 1, 1, 1, 1, 0, 1, 0, 0, 1, 0, 0, 1, 0, 1] (bodyOf Try.f132)) σ h (hBlk 1 (hSeq (fun σ h => g132_C20 call lf σ h k) k)) = g132_C19 call lf σ h k :=
  by kernel_rfl
noncomputable def g132_C18 (call : Call) (lf : Nat) (σ : St) (h : AHeap) (k : KS) : Option Ans :=
  cIf (σ 93)
  (g132_C19 call lf (updL σ [(4, (Go.Value.int Go.IntKind.i64 51))]) h k)
  (g132_C20 call lf σ h k)
theorem g132_C18_eq (call : Call) (lf : Nat) (σ : St) (h : AHeap) (k : KS) : evCodeS EK call (drOf EK 132) lf (cAt [1, 1, 1, 1, 1, 1, 1, 0, 1, 0, 0, 1, 0, 0, 1] (bodyOf Try.f132)) σ h (hBlk 1 (hSeq (fun σ h => g132_C20 call lf σ h k) k)) = g132_C18 call lf σ h k :=
  cond_eq (a := cAt [1, 1, 1, 1, 1, 1, 1, 0, 1, 0, 0, 1, 0, 0, 1, 0] (bodyOf Try.f132)) (b := cAt [1, 1, 1, 1, 1, 1, 1, 0, 1, 0, 0, 1, 0, 0, 1, 1] (bodyOf Try.f132)) (x := .tmp 93) (by kernel_rfl) (seq_eq (a := cAt [1, 1, 1, 1, 1, 1, 1, 0, 1, 0, 0, 1, 0, 0, 1, 0, 0] (bodyOf Try.f132)) (b := cAt [1, 1, 1, 1, 1, 1, 1, 0, 1, 0, 0, 1, 0, 0, 1, 0, 1] (bodyOf Try.f132)) (by kernel_rfl) (fun σ h => g132_C19_eq call lf σ h k) (by kernel_rfl)) (by kernel_rfl)
noncomputable def g132_C17 (call : Call) (lf : Nat) (σ : St) (h : AHeap) (k : KS) : Option Ans :=
  dr (cFieldAddr 1 (σ 2) fun v130 =>
  rety v130 h) fun v128 h129 =>
  dr (cLoad1 (.slc) v128 h129 fun v133 =>
  rety v133 h129) fun v131 h132 =>
  dr (cIdxS 1 v131 (σ 7) fun v136 =>
  rety v136 h132) fun v134 h135 =>
  dr (cLoad1 (.int .i64) v134 h135 fun v139 =>
  rety v139 h135) fun v137 h138 =>
  dr (cBin EK .lss 3 v137 (Go.Value.int Go.IntKind.i64 0) fun v142 =>
  rety v142 h138) fun v140 h141 =>
  gd v140
  (dr (cPick (Value.bool true) (Go.Value.bool true) undef fun v146 =>
  rety v146 h141) fun v144 h145 =>
  gd v144
  (gd undef
  (dr (cFieldAddr 1 (σ 2) fun v151 =>
  rety v151 h145) fun v149 h150 =>
  dr (cLoad1 (.slc) v149 h150 fun v154 =>
  rety v154 h150) fun v152 h153 =>
  dr (cIdxS 1 v152 (σ 7) fun v157 =>
  rety v157 h153) fun v155 h156 =>
  dr (cLoad1 (.int .i64) v155 h156 fun v160 =>
  rety v160 h156) fun v158 h159 =>
  dr (cFieldAddr 1 (σ 2) fun v163 =>
  rety v163 h159) fun v161 h162 =>
  dr (cLoad1 (.slc) v161 h162 fun v166 =>
  rety v166 h162) fun v164 h165 =>
  dr (cBin EK .sub 3 (σ 7) (Go.Value.int Go.IntKind.i64 1) fun v169 =>
  rety v169 h165) fun v167 h168 =>
  dr (cIdxS 1 v164 v167 fun v172 =>
  rety v172 h168) fun v170 h171 =>
  dr (cLoad1 (.int .i64) v170 h171 fun v175 =>
  rety v175 h171) fun v173 h174 =>
  dr (cBin EK .leq 3 v158 v173 fun v178 =>
  rety v178 h174) fun v176 h177 =>
  dr (cPick (Value.bool true) (Go.Value.bool true) undef fun v181 =>
  rety v181 h177) fun v179 h180 =>
  g132_C18 call lf (updL σ [(93, v179), (92, undef), (76, (Value.bool true)), (91, v176), (79, (Value.bool true)), (90, v173), (79, (Value.bool true)), (89, v170), (79, (Value.bool true)), (88, v167), (79, (Value.bool true)), (87, (σ 7)), (79, (Value.bool true)), (86, v164), (79, (Value.bool true)), (85, v161), (79, (Value.bool true)), (84, v158), (79, (Value.bool true)), (83, v155), (79, (Value.bool true)), (82, (σ 7)), (79, (Value.bool true)), (81, v152), (79, (Value.bool true)), (80, v149), (79, (Value.bool true)), (79, undef), (76, (Value.bool true)), (78, undef), (76, (Value.bool true)), (77, undef), (76, (Value.bool true)), (76, v144), (75, v144), (74, undef), (67, (Value.bool true)), (73, undef), (67, (Value.bool true)), (72, undef), (67, (Value.bool true)), (71, undef), (67, (Value.bool true)), (70, undef), (67, (Value.bool true)), (69, undef), (67, (Value.bool true)), (68, undef), (67, (Value.bool true)), (67, v140), (66, v140), (65, v137), (64, v134), (63, (σ 7)), (62, v131), (61, v128)]) h180 k)
  (dr (cPick (Value.bool true) (Go.Value.bool true) undef fun v193 =>
  rety v193 h145) fun v191 h192 =>
  g132_C18 call lf (updL σ [(93, v191), (92, undef), (76, (Value.bool true)), (91, undef), (79, (Value.bool false)), (90, undef), (79, (Value.bool false)), (89, undef), (79, (Value.bool false)), (88, undef), (79, (Value.bool false)), (87, undef), (79, (Value.bool false)), (86, undef), (79, (Value.bool false)), (85, undef), (79, (Value.bool false)), (84, undef), (79, (Value.bool false)), (83, undef), (79, (Value.bool false)), (82, undef), (79, (Value.bool false)), (81, undef), (79, (Value.bool false)), (80, undef), (79, (Value.bool false)), (79, undef), (76, (Value.bool true)), (78, undef), (76, (Value.bool true)), (77, undef), (76, (Value.bool true)), (76, v144), (75, v144), (74, undef), (67, (Value.bool true)), (73, undef), (67, (Value.bool true)), (72, undef), (67, (Value.bool true)), (71, undef), (67, (Value.bool true)), (70, undef), (67, (Value.bool true)), (69, undef), (67, (Value.bool true)), (68, undef), (67, (Value.bool true)), (67, v140), (66, v140), (65, v137), (64, v134), (63, (σ 7)), (62, v131), (61, v128)]) h192 k)
  (fun c148 => dr (cPick (Value.bool true) (Go.Value.bool true) undef fun v196 =>
  rety v196 h145) fun v194 h195 =>
  g132_C18 call lf (updL σ [(93, v194), (92, undef), (76, (Value.bool true)), (91, undef), (79, (Value.tuple c148)), (90, undef), (79, (Value.tuple c148)), (89, undef), (79, (Value.tuple c148)), (88, undef), (79, (Value.tuple c148)), (87, undef), (79, (Value.tuple c148)), (86, undef), (79, (Value.tuple c148)), (85, undef), (79, (Value.tuple c148)), (84, undef), (79, (Value.tuple c148)), (83, undef), (79, (Value.tuple c148)), (82, undef), (79, (Value.tuple c148)), (81, undef), (79, (Value.tuple c148)), (80, undef), (79, (Value.tuple c148)), (79, undef), (76, (Value.bool true)), (78, undef), (76, (Value.bool true)), (77, undef), (76, (Value.bool true)), (76, v144), (75, v144), (74, undef), (67, (Value.bool true)), (73, undef), (67, (Value.bool true)), (72, undef), (67, (Value.bool true)), (71, undef), (67, (Value.bool true)), (70, undef), (67, (Value.bool true)), (69, undef), (67, (Value.bool true)), (68, undef), (67, (Value.bool true)), (67, v140), (66, v140), (65, v137), (64, v134), (63, (σ 7)), (62, v131), (61, v128)]) h195 k))
  (dr (cBin EK .gtr 3 (σ 7) (Go.Value.int Go.IntKind.i64 0) fun v199 =>
  rety v199 h145) fun v197 h198 =>
  gd v197
  (dr (cFieldAddr 1 (σ 2) fun v203 =>
  rety v203 h198) fun v201 h202 =>
  dr (cLoad1 (.slc) v201 h202 fun v206 =>
  rety v206 h202) fun v204 h205 =>
  dr (cIdxS 1 v204 (σ 7) fun v209 =>
  rety v209 h205) fun v207 h208 =>
  dr (cLoad1 (.int .i64) v207 h208 fun v212 =>
  rety v212 h208) fun v210 h211 =>
  dr (cFieldAddr 1 (σ 2) fun v215 =>
  rety v215 h211) fun v213 h214 =>
  dr (cLoad1 (.slc) v213 h214 fun v218 =>
  rety v218 h214) fun v216 h217 =>
  dr (cBin EK .sub 3 (σ 7) (Go.Value.int Go.IntKind.i64 1) fun v221 =>
  rety v221 h217) fun v219 h220 =>
  dr (cIdxS 1 v216 v219 fun v224 =>
  rety v224 h220) fun v222 h223 =>
  dr (cLoad1 (.int .i64) v222 h223 fun v227 =>
  rety v227 h223) fun v225 h226 =>
  dr (cBin EK .leq 3 v210 v225 fun v230 =>
  rety v230 h226) fun v228 h229 =>
  dr (cPick (Value.bool true) v228 (Go.Value.bool false) fun v233 =>
  rety v233 h229) fun v231 h232 =>
  dr (cPick (Value.bool false) (Go.Value.bool true) v231 fun v236 =>
  rety v236 h232) fun v234 h235 =>
  g132_C18 call lf (updL σ [(93, v234), (92, v231), (76, (Value.bool false)), (91, v228), (79, (Value.bool true)), (90, v225), (79, (Value.bool true)), (89, v222), (79, (Value.bool true)), (88, v219), (79, (Value.bool true)), (87, (σ 7)), (79, (Value.bool true)), (86, v216), (79, (Value.bool true)), (85, v213), (79, (Value.bool true)), (84, v210), (79, (Value.bool true)), (83, v207), (79, (Value.bool true)), (82, (σ 7)), (79, (Value.bool true)), (81, v204), (79, (Value.bool true)), (80, v201), (79, (Value.bool true)), (79, v197), (76, (Value.bool false)), (78, v197), (76, (Value.bool false)), (77, (σ 7)), (76, (Value.bool false)), (76, v144), (75, v144), (74, undef), (67, (Value.bool true)), (73, undef), (67, (Value.bool true)), (72, undef), (67, (Value.bool true)), (71, undef), (67, (Value.bool true)), (70, undef), (67, (Value.bool true)), (69, undef), (67, (Value.bool true)), (68, undef), (67, (Value.bool true)), (67, v140), (66, v140), (65, v137), (64, v134), (63, (σ 7)), (62, v131), (61, v128)]) h235 k)
  (dr (cPick (Value.bool false) undef (Go.Value.bool false) fun v239 =>
  rety v239 h198) fun v237 h238 =>
  dr (cPick (Value.bool false) (Go.Value.bool true) v237 fun v242 =>
  rety v242 h238) fun v240 h241 =>
  g132_C18 call lf (updL σ [(93, v240), (92, v237), (76, (Value.bool false)), (91, undef), (79, (Value.bool false)), (90, undef), (79, (Value.bool false)), (89, undef), (79, (Value.bool false)), (88, undef), (79, (Value.bool false)), (87, undef), (79, (Value.bool false)), (86, undef), (79, (Value.bool false)), (85, undef), (79, (Value.bool false)), (84, undef), (79, (Value.bool false)), (83, undef), (79, (Value.bool false)), (82, undef), (79, (Value.bool false)), (81, undef), (79, (Value.bool false)), (80, undef), (79, (Value.bool false)), (79, v197), (76, (Value.bool false)), (78, v197), (76, (Value.bool false)), (77, (σ 7)), (76, (Value.bool false)), (76, v144), (75, v144), (74, undef), (67, (Value.bool true)), (73, undef), (67, (Value.bool true)), (72, undef), (67, (Value.bool true)), (71, undef), (67, (Value.bool true)), (70, undef), (67, (Value.bool true)), (69, undef), (67, (Value.bool true)), (68, undef), (67, (Value.bool true)), (67, v140), (66, v140), (65, v137), (64, v134), (63, (σ 7)), (62, v131), (61, v128)]) h241 k)
  (fun c200 => dr (cPick (Value.tuple c200) undef (Go.Value.bool false) fun v245 =>
  rety v245 h198) fun v243 h244 =>
  dr (cPick (Value.bool false) (Go.Value.bool true) v243 fun v248 =>
  rety v248 h244) fun v246 h247 =>
  g132_C18 call lf (updL σ [(93, v246), (92, v243), (76, (Value.bool false)), (91, undef), (79, (Value.tuple c200)), (90, undef), (79, (Value.tuple c200)), (89, undef), (79, (Value.tuple c200)), (88, undef), (79, (Value.tuple c200)), (87, undef), (79, (Value.tuple c200)), (86, undef), (79, (Value.tuple c200)), (85, undef), (79, (Value.tuple c200)), (84, undef), (79, (Value.tuple c200)), (83, undef), (79, (Value.tuple c200)), (82, undef), (79, (Value.tuple c200)), (81, undef), (79, (Value.tuple c200)), (80, undef), (79, (Value.tuple c200)), (79, v197), (76, (Value.bool false)), (78, v197), (76, (Value.bool false)), (77, (σ 7)), (76, (Value.bool false)), (76, v144), (75, v144), (74, undef), (67, (Value.bool true)), (73, undef), (67, (Value.bool true)), (72, undef), (67, (Value.bool true)), (71, undef), (67, (Value.bool true)), (70, undef), (67, (Value.bool true)), (69, undef), (67, (Value.bool true)), (68, undef), (67, (Value.bool true)), (67, v140), (66, v140), (65, v137), (64, v134), (63, (σ 7)), (62, v131), (61, v128)]) h247 k))
  (fun c147 => gd undef
  (dr (cFieldAddr 1 (σ 2) fun v252 =>
  rety v252 h145) fun v250 h251 =>
  dr (cLoad1 (.slc) v250 h251 fun v255 =>
  rety v255 h251) fun v253 h254 =>
  dr (cIdxS 1 v253 (σ 7) fun v258 =>
  rety v258 h254) fun v256 h257 =>
  dr (cLoad1 (.int .i64) v256 h257 fun v261 =>
  rety v261 h257) fun v259 h260 =>
  dr (cFieldAddr 1 (σ 2) fun v264 =>
  rety v264 h260) fun v262 h263 =>
  dr (cLoad1 (.slc) v262 h263 fun v267 =>
  rety v267 h263) fun v265 h266 =>
  dr (cBin EK .sub 3 (σ 7) (Go.Value.int Go.IntKind.i64 1) fun v270 =>
  rety v270 h266) fun v268 h269 =>
  dr (cIdxS 1 v265 v268 fun v273 =>
  rety v273 h269) fun v271 h272 =>
  dr (cLoad1 (.int .i64) v271 h272 fun v276 =>
  rety v276 h272) fun v274 h275 =>
  dr (cBin EK .leq 3 v259 v274 fun v279 =>
  rety v279 h275) fun v277 h278 =>
  dr (cPick (Value.tuple c147) (Go.Value.bool true) undef fun v282 =>
  rety v282 h278) fun v280 h281 =>
  g132_C18 call lf (updL σ [(93, v280), (92, undef), (76, (Value.tuple c147)), (91, v277), (79, (Value.bool true)), (90, v274), (79, (Value.bool true)), (89, v271), (79, (Value.bool true)), (88, v268), (79, (Value.bool true)), (87, (σ 7)), (79, (Value.bool true)), (86, v265), (79, (Value.bool true)), (85, v262), (79, (Value.bool true)), (84, v259), (79, (Value.bool true)), (83, v256), (79, (Value.bool true)), (82, (σ 7)), (79, (Value.bool true)), (81, v253), (79, (Value.bool true)), (80, v250), (79, (Value.bool true)), (79, undef), (76, (Value.tuple c147)), (78, undef), (76, (Value.tuple c147)), (77, undef), (76, (Value.tuple c147)), (76, v144), (75, v144), (74, undef), (67, (Value.bool true)), (73, undef), (67, (Value.bool true)), (72, undef), (67, (Value.bool true)), (71, undef), (67, (Value.bool true)), (70, undef), (67, (Value.bool true)), (69, undef), (67, (Value.bool true)), (68, undef), (67, (Value.bool true)), (67, v140), (66, v140), (65, v137), (64, v134), (63, (σ 7)), (62, v131), (61, v128)]) h281 k)
  (dr (cPick (Value.tuple c147) (Go.Value.bool true) undef fun v285 =>
  rety v285 h145) fun v283 h284 =>
  g132_C18 call lf (updL σ [(93, v283), (92, undef), (76, (Value.tuple c147)), (91, undef), (79, (Value.bool false)), (90, undef), (79, (Value.bool false)), (89, undef), (79, (Value.bool false)), (88, undef), (79, (Value.bool false)), (87, undef), (79, (Value.bool false)), (86, undef), (79, (Value.bool false)), (85, undef), (79, (Value.bool false)), (84, undef), (79, (Value.bool false)), (83, undef), (79, (Value.bool false)), (82, undef), (79, (Value.bool false)), (81, undef), (79, (Value.bool false)), (80, undef), (79, (Value.bool false)), (79, undef), (76, (Value.tuple c147)), (78, undef), (76, (Value.tuple c147)), (77, undef), (76, (Value.tuple c147)), (76, v144), (75, v144), (74, undef), (67, (Value.bool true)), (73, undef), (67, (Value.bool true)), (72, undef), (67, (Value.bool true)), (71, undef), (67, (Value.bool true)), (70, undef), (67, (Value.bool true)), (69, undef), (67, (Value.bool true)), (68, undef), (67, (Value.bool true)), (67, v140), (66, v140), (65, v137), (64, v134), (63, (σ 7)), (62, v131), (61, v128)]) h284 k)
  (fun c249 => dr (cPick (Value.tuple c147) (Go.Value.bool true) undef fun v288 =>
  rety v288 h145) fun v286 h287 =>
  g132_C18 call lf (updL σ [(93, v286), (92, undef), (76, (Value.tuple c147)), (91, undef), (79, (Value.tuple c249)), (90, undef), (79, (Value.tuple c249)), (89, undef), (79, (Value.tuple c249)), (88, undef), (79, (Value.tuple c249)), (87, undef), (79, (Value.tuple c249)), (86, undef), (79, (Value.tuple c249)), (85, undef), (79, (Value.tuple c249)), (84, undef), (79, (Value.tuple c249)), (83, undef), (79, (Value.tuple c249)), (82, undef), (79, (Value.tuple c249)), (81, undef), (79, (Value.tuple c249)), (80, undef), (79, (Value.tuple c249)), (79, undef), (76, (Value.tuple c147)), (78, undef), (76, (Value.tuple c147)), (77, undef), (76, (Value.tuple c147)), (76, v144), (75, v144), (74, undef), (67, (Value.bool true)), (73, undef), (67, (Value.bool true)), (72, undef), (67, (Value.bool true)), (71, undef), (67, (Value.bool true)), (70, undef), (67, (Value.bool true)), (69, undef), (67, (Value.bool true)), (68, undef), (67, (Value.bool true)), (67, v140), (66, v140), (65, v137), (64, v134), (63, (σ 7)), (62, v131), (61, v128)]) h287 k)))
  (dr (cFieldAddr 1 (σ 2) fun v291 =>
  rety v291 h141) fun v289 h290 =>
  dr (cLoad1 (.slc) v289 h290 fun v294 =>
  rety v294 h290) fun v292 h293 =>
  dr (cIdxS 1 v292 (σ 7) fun v297 =>
  rety v297 h293) fun v295 h296 =>
  dr (cLoad1 (.int .i64) v295 h296 fun v300 =>
  rety v300 h296) fun v298 h299 =>
  dr (cBin EK .geq 3 v298 (σ 1) fun v303 =>
  rety v303 h299) fun v301 h302 =>
  dr (cPick (Value.bool false) (Go.Value.bool true) v301 fun v306 =>
  rety v306 h302) fun v304 h305 =>
  gd v304
  (gd undef
  (dr (cFieldAddr 1 (σ 2) fun v311 =>
  rety v311 h305) fun v309 h310 =>
  dr (cLoad1 (.slc) v309 h310 fun v314 =>
  rety v314 h310) fun v312 h313 =>
  dr (cIdxS 1 v312 (σ 7) fun v317 =>
  rety v317 h313) fun v315 h316 =>
  dr (cLoad1 (.int .i64) v315 h316 fun v320 =>
  rety v320 h316) fun v318 h319 =>
  dr (cFieldAddr 1 (σ 2) fun v323 =>
  rety v323 h319) fun v321 h322 =>
  dr (cLoad1 (.slc) v321 h322 fun v326 =>
  rety v326 h322) fun v324 h325 =>
  dr (cBin EK .sub 3 (σ 7) (Go.Value.int Go.IntKind.i64 1) fun v329 =>
  rety v329 h325) fun v327 h328 =>
  dr (cIdxS 1 v324 v327 fun v332 =>
  rety v332 h328) fun v330 h331 =>
  dr (cLoad1 (.int .i64) v330 h331 fun v335 =>
  rety v335 h331) fun v333 h334 =>
  dr (cBin EK .leq 3 v318 v333 fun v338 =>
  rety v338 h334) fun v336 h337 =>
  dr (cPick (Value.bool true) (Go.Value.bool true) undef fun v341 =>
  rety v341 h337) fun v339 h340 =>
  g132_C18 call lf (updL σ [(93, v339), (92, undef), (76, (Value.bool true)), (91, v336), (79, (Value.bool true)), (90, v333), (79, (Value.bool true)), (89, v330), (79, (Value.bool true)), (88, v327), (79, (Value.bool true)), (87, (σ 7)), (79, (Value.bool true)), (86, v324), (79, (Value.bool true)), (85, v321), (79, (Value.bool true)), (84, v318), (79, (Value.bool true)), (83, v315), (79, (Value.bool true)), (82, (σ 7)), (79, (Value.bool true)), (81, v312), (79, (Value.bool true)), (80, v309), (79, (Value.bool true)), (79, undef), (76, (Value.bool true)), (78, undef), (76, (Value.bool true)), (77, undef), (76, (Value.bool true)), (76, v304), (75, v304), (74, v301), (67, (Value.bool false)), (73, (σ 1)), (67, (Value.bool false)), (72, v298), (67, (Value.bool false)), (71, v295), (67, (Value.bool false)), (70, (σ 7)), (67, (Value.bool false)), (69, v292), (67, (Value.bool false)), (68, v289), (67, (Value.bool false)), (67, v140), (66, v140), (65, v137), (64, v134), (63, (σ 7)), (62, v131), (61, v128)]) h340 k)
  (dr (cPick (Value.bool true) (Go.Value.bool true) undef fun v344 =>
  rety v344 h305) fun v342 h343 =>
  g132_C18 call lf (updL σ [(93, v342), (92, undef), (76, (Value.bool true)), (91, undef), (79, (Value.bool false)), (90, undef), (79, (Value.bool false)), (89, undef), (79, (Value.bool false)), (88, undef), (79, (Value.bool false)), (87, undef), (79, (Value.bool false)), (86, undef), (79, (Value.bool false)), (85, undef), (79, (Value.bool false)), (84, undef), (79, (Value.bool false)), (83, undef), (79, (Value.bool false)), (82, undef), (79, (Value.bool false)), (81, undef), (79, (Value.bool false)), (80, undef), (79, (Value.bool false)), (79, undef), (76, (Value.bool true)), (78, undef), (76, (Value.bool true)), (77, undef), (76, (Value.bool true)), (76, v304), (75, v304), (74, v301), (67, (Value.bool false)), (73, (σ 1)), (67, (Value.bool false)), (72, v298), (67, (Value.bool false)), (71, v295), (67, (Value.bool false)), (70, (σ 7)), (67, (Value.bool false)), (69, v292), (67, (Value.bool false)), (68, v289), (67, (Value.bool false)), (67, v140), (66, v140), (65, v137), (64, v134), (63, (σ 7)), (62, v131), (61, v128)]) h343 k)
  (fun c308 => dr (cPick (Value.bool true) (Go.Value.bool true) undef fun v347 =>
  rety v347 h305) fun v345 h346 =>
  g132_C18 call lf (updL σ [(93, v345), (92, undef), (76, (Value.bool true)), (91, undef), (79, (Value.tuple c308)), (90, undef), (79, (Value.tuple c308)), (89, undef), (79, (Value.tuple c308)), (88, undef), (79, (Value.tuple c308)), (87, undef), (79, (Value.tuple c308)), (86, undef), (79, (Value.tuple c308)), (85, undef), (79, (Value.tuple c308)), (84, undef), (79, (Value.tuple c308)), (83, undef), (79, (Value.tuple c308)), (82, undef), (79, (Value.tuple c308)), (81, undef), (79, (Value.tuple c308)), (80, undef), (79, (Value.tuple c308)), (79, undef), (76, (Value.bool true)), (78, undef), (76, (Value.bool true)), (77, undef), (76, (Value.bool true)), (76, v304), (75, v304), (74, v301), (67, (Value.bool false)), (73, (σ 1)), (67, (Value.bool false)), (72, v298), (67, (Value.bool false)), (71, v295), (67, (Value.bool false)), (70, (σ 7)), (67, (Value.bool false)), (69, v292), (67, (Value.bool false)), (68, v289), (67, (Value.bool false)), (67, v140), (66, v140), (65, v137), (64, v134), (63, (σ 7)), (62, v131), (61, v128)]) h346 k))
  (dr (cBin EK .gtr 3 (σ 7) (Go.Value.int Go.IntKind.i64 0) fun v350 =>
  rety v350 h305) fun v348 h349 =>
  gd v348
  (dr (cFieldAddr 1 (σ 2) fun v354 =>
  rety v354 h349) fun v352 h353 =>
  dr (cLoad1 (.slc) v352 h353 fun v357 =>
  rety v357 h353) fun v355 h356 =>
  dr (cIdxS 1 v355 (σ 7) fun v360 =>
  rety v360 h356) fun v358 h359 =>
  dr (cLoad1 (.int .i64) v358 h359 fun v363 =>
  rety v363 h359) fun v361 h362 =>
  dr (cFieldAddr 1 (σ 2) fun v366 =>
  rety v366 h362) fun v364 h365 =>
  dr (cLoad1 (.slc) v364 h365 fun v369 =>
  rety v369 h365) fun v367 h368 =>
  dr (cBin EK .sub 3 (σ 7) (Go.Value.int Go.IntKind.i64 1) fun v372 =>
  rety v372 h368) fun v370 h371 =>
  dr (cIdxS 1 v367 v370 fun v375 =>
  rety v375 h371) fun v373 h374 =>
  dr (cLoad1 (.int .i64) v373 h374 fun v378 =>
  rety v378 h374) fun v376 h377 =>
  dr (cBin EK .leq 3 v361 v376 fun v381 =>
  rety v381 h377) fun v379 h380 =>
  dr (cPick (Value.bool true) v379 (Go.Value.bool false) fun v384 =>
  rety v384 h380) fun v382 h383 =>
  dr (cPick (Value.bool false) (Go.Value.bool true) v382 fun v387 =>
  rety v387 h383) fun v385 h386 =>
  g132_C18 call lf (updL σ [(93, v385), (92, v382), (76, (Value.bool false)), (91, v379), (79, (Value.bool true)), (90, v376), (79, (Value.bool true)), (89, v373), (79, (Value.bool true)), (88, v370), (79, (Value.bool true)), (87, (σ 7)), (79, (Value.bool true)), (86, v367), (79, (Value.bool true)), (85, v364), (79, (Value.bool true)), (84, v361), (79, (Value.bool true)), (83, v358), (79, (Value.bool true)), (82, (σ 7)), (79, (Value.bool true)), (81, v355), (79, (Value.bool true)), (80, v352), (79, (Value.bool true)), (79, v348), (76, (Value.bool false)), (78, v348), (76, (Value.bool false)), (77, (σ 7)), (76, (Value.bool false)), (76, v304), (75, v304), (74, v301), (67, (Value.bool false)), (73, (σ 1)), (67, (Value.bool false)), (72, v298), (67, (Value.bool false)), (71, v295), (67, (Value.bool false)), (70, (σ 7)), (67, (Value.bool false)), (69, v292), (67, (Value.bool false)), (68, v289), (67, (Value.bool false)), (67, v140), (66, v140), (65, v137), (64, v134), (63, (σ 7)), (62, v131), (61, v128)]) h386 k)
  (dr (cPick (Value.bool false) undef (Go.Value.bool false) fun v390 =>
  rety v390 h349) fun v388 h389 =>
  dr (cPick (Value.bool false) (Go.Value.bool true) v388 fun v393 =>
  rety v393 h389) fun v391 h392 =>
  g132_C18 call lf (updL σ [(93, v391), (92, v388), (76, (Value.bool false)), (91, undef), (79, (Value.bool false)), (90, undef), (79, (Value.bool false)), (89, undef), (79, (Value.bool false)), (88, undef), (79, (Value.bool false)), (87, undef), (79, (Value.bool false)), (86, undef), (79, (Value.bool false)), (85, undef), (79, (Value.bool false)), (84, undef), (79, (Value.bool false)), (83, undef), (79, (Value.bool false)), (82, undef), (79, (Value.bool false)), (81, undef), (79, (Value.bool false)), (80, undef), (79, (Value.bool false)), (79, v348), (76, (Value.bool false)), (78, v348), (76, (Value.bool false)), (77, (σ 7)), (76, (Value.bool false)), (76, v304), (75, v304), (74, v301), (67, (Value.bool false)), (73, (σ 1)), (67, (Value.bool false)), (72, v298), (67, (Value.bool false)), (71, v295), (67, (Value.bool false)), (70, (σ 7)), (67, (Value.bool false)), (69, v292), (67, (Value.bool false)), (68, v289), (67, (Value.bool false)), (67, v140), (66, v140), (65, v137), (64, v134), (63, (σ 7)), (62, v131), (61, v128)]) h392 k)
  (fun c351 => dr (cPick (Value.tuple c351) undef (Go.Value.bool false) fun v396 =>
  rety v396 h349) fun v394 h395 =>
  dr (cPick (Value.bool false) (Go.Value.bool true) v394 fun v399 =>
  rety v399 h395) fun v397 h398 =>
  g132_C18 call lf (updL σ [(93, v397), (92, v394), (76, (Value.bool false)), (91, undef), (79, (Value.tuple c351)), (90, undef), (79, (Value.tuple c351)), (89, undef), (79, (Value.tuple c351)), (88, undef), (79, (Value.tuple c351)), (87, undef), (79, (Value.tuple c351)), (86, undef), (79, (Value.tuple c351)), (85, undef), (79, (Value.tuple c351)), (84, undef), (79, (Value.tuple c351)), (83, undef), (79, (Value.tuple c351)), (82, undef), (79, (Value.tuple c351)), (81, undef), (79, (Value.tuple c351)), (80, undef), (79, (Value.tuple c351)), (79, v348), (76, (Value.bool false)), (78, v348), (76, (Value.bool false)), (77, (σ 7)), (76, (Value.bool false)), (76, v304), (75, v304), (74, v301), (67, (Value.bool false)), (73, (σ 1)), (67, (Value.bool false)), (72, v298), (67, (Value.bool false)), (71, v295), (67, (Value.bool false)), (70, (σ 7)), (67, (Value.bool false)), (69, v292), (67, (Value.bool false)), (68, v289), (67, (Value.bool false)), (67, v140), (66, v140), (65, v137), (64, v134), (63, (σ 7)), (62, v131), (61, v128)]) h398 k))
  (fun c307 => gd undef
  (dr (cFieldAddr 1 (σ 2) fun v403 =>
  rety v403 h305) fun v401 h402 =>
  dr (cLoad1 (.slc) v401 h402 fun v406 =>
  rety v406 h402) fun v404 h405 =>
  dr (cIdxS 1 v404 (σ 7) fun v409 =>
  rety v409 h405) fun v407 h408 =>
  dr (cLoad1 (.int .i64) v407 h408 fun v412 =>
  rety v412 h408) fun v410 h411 =>
  dr (cFieldAddr 1 (σ 2) fun v415 =>
  rety v415 h411) fun v413 h414 =>
  dr (cLoad1 (.slc) v413 h414 fun v418 =>
  rety v418 h414) fun v416 h417 =>
  dr (cBin EK .sub 3 (σ 7) (Go.Value.int Go.IntKind.i64 1) fun v421 =>
  rety v421 h417) fun v419 h420 =>
  dr (cIdxS 1 v416 v419 fun v424 =>
  rety v424 h420) fun v422 h423 =>
  dr (cLoad1 (.int .i64) v422 h423 fun v427 =>
  rety v427 h423) fun v425 h426 =>
  dr (cBin EK .leq 3 v410 v425 fun v430 =>
  rety v430 h426) fun v428 h429 =>
  dr (cPick (Value.tuple c307) (Go.Value.bool true) undef fun v433 =>
  rety v433 h429) fun v431 h432 =>
  g132_C18 call lf (updL σ [(93, v431), (92, undef), (76, (Value.tuple c307)), (91, v428), (79, (Value.bool true)), (90, v425), (79, (Value.bool true)), (89, v422), (79, (Value.bool true)), (88, v419), (79, (Value.bool true)), (87, (σ 7)), (79, (Value.bool true)), (86, v416), (79, (Value.bool true)), (85, v413), (79, (Value.bool true)), (84, v410), (79, (Value.bool true)), (83, v407), (79, (Value.bool true)), (82, (σ 7)), (79, (Value.bool true)), (81, v404), (79, (Value.bool true)), (80, v401), (79, (Value.bool true)), (79, undef), (76, (Value.tuple c307)), (78, undef), (76, (Value.tuple c307)), (77, undef), (76, (Value.tuple c307)), (76, v304), (75, v304), (74, v301), (67, (Value.bool false)), (73, (σ 1)), (67, (Value.bool false)), (72, v298), (67, (Value.bool false)), (71, v295), (67, (Value.bool false)), (70, (σ 7)), (67, (Value.bool false)), (69, v292), (67, (Value.bool false)), (68, v289), (67, (Value.bool false)), (67, v140), (66, v140), (65, v137), (64, v134), (63, (σ 7)), (62, v131), (61, v128)]) h432 k)
  (dr (cPick (Value.tuple c307) (Go.Value.bool true) undef fun v436 =>
  rety v436 h305) fun v434 h435 =>
  g132_C18 call lf (updL σ [(93, v434), (92, undef), (76, (Value.tuple c307)), (91, undef), (79, (Value.bool false)), (90, undef), (79, (Value.bool false)), (89, undef), (79, (Value.bool false)), (88, undef), (79, (Value.bool false)), (87, undef), (79, (Value.bool false)), (86, undef), (79, (Value.bool false)), (85, undef), (79, (Value.bool false)), (84, undef), (79, (Value.bool false)), (83, undef), (79, (Value.bool false)), (82, undef), (79, (Value.bool false)), (81, undef), (79, (Value.bool false)), (80, undef), (79, (Value.bool false)), (79, undef), (76, (Value.tuple c307)), (78, undef), (76, (Value.tuple c307)), (77, undef), (76, (Value.tuple c307)), (76, v304), (75, v304), (74, v301), (67, (Value.bool false)), (73, (σ 1)), (67, (Value.bool false)), (72, v298), (67, (Value.bool false)), (71, v295), (67, (Value.bool false)), (70, (σ 7)), (67, (Value.bool false)), (69, v292), (67, (Value.bool false)), (68, v289), (67, (Value.bool false)), (67, v140), (66, v140), (65, v137), (64, v134), (63, (σ 7)), (62, v131), (61, v128)]) h435 k)
  (fun c400 => dr (cPick (Value.tuple c307) (Go.Value.bool true) undef fun v439 =>
  rety v439 h305) fun v437 h438 =>
  g132_C18 call lf (updL σ [(93, v437), (92, undef), (76, (Value.tuple c307)), (91, undef), (79, (Value.tuple c400)), (90, undef), (79, (Value.tuple c400)), (89, undef), (79, (Value.tuple c400)), (88, undef), (79, (Value.tuple c400)), (87, undef), (79, (Value.tuple c400)), (86, undef), (79, (Value.tuple c400)), (85, undef), (79, (Value.tuple c400)), (84, undef), (79, (Value.tuple c400)), (83, undef), (79, (Value.tuple c400)), (82, undef), (79, (Value.tuple c400)), (81, undef), (79, (Value.tuple c400)), (80, undef), (79, (Value.tuple c400)), (79, undef), (76, (Value.tuple c307)), (78, undef), (76, (Value.tuple c307)), (77, undef), (76, (Value.tuple c307)), (76, v304), (75, v304), (74, v301), (67, (Value.bool false)), (73, (σ 1)), (67, (Value.bool false)), (72, v298), (67, (Value.bool false)), (71, v295), (67, (Value.bool false)), (70, (σ 7)), (67, (Value.bool false)), (69, v292), (67, (Value.bool false)), (68, v289), (67, (Value.bool false)), (67, v140), (66, v140), (65, v137), (64, v134), (63, (σ 7)), (62, v131), (61, v128)]) h438 k)))
  (fun c143 => dr (cPick (Value.tuple c143) (Go.Value.bool true) undef fun v442 =>
  rety v442 h141) fun v440 h441 =>
  gd v440
  (gd undef
  (dr (cFieldAddr 1 (σ 2) fun v447 =>
  rety v447 h441) fun v445 h446 =>
  dr (cLoad1 (.slc) v445 h446 fun v450 =>
  rety v450 h446) fun v448 h449 =>
  dr (cIdxS 1 v448 (σ 7) fun v453 =>
  rety v453 h449) fun v451 h452 =>
  dr (cLoad1 (.int .i64) v451 h452 fun v456 =>
  rety v456 h452) fun v454 h455 =>
  dr (cFieldAddr 1 (σ 2) fun v459 =>
  rety v459 h455) fun v457 h458 =>
  dr (cLoad1 (.slc) v457 h458 fun v462 =>
  rety v462 h458) fun v460 h461 =>
  dr (cBin EK .sub 3 (σ 7) (Go.Value.int Go.IntKind.i64 1) fun v465 =>
  rety v465 h461) fun v463 h464 =>
  dr (cIdxS 1 v460 v463 fun v468 =>
  rety v468 h464) fun v466 h467 =>
  dr (cLoad1 (.int .i64) v466 h467 fun v471 =>
  rety v471 h467) fun v469 h470 =>
  dr (cBin EK .leq 3 v454 v469 fun v474 =>
  rety v474 h470) fun v472 h473 =>
  dr (cPick (Value.bool true) (Go.Value.bool true) undef fun v477 =>
  rety v477 h473) fun v475 h476 =>
  g132_C18 call lf (updL σ [(93, v475), (92, undef), (76, (Value.bool true)), (91, v472), (79, (Value.bool true)), (90, v469), (79, (Value.bool true)), (89, v466), (79, (Value.bool true)), (88, v463), (79, (Value.bool true)), (87, (σ 7)), (79, (Value.bool true)), (86, v460), (79, (Value.bool true)), (85, v457), (79, (Value.bool true)), (84, v454), (79, (Value.bool true)), (83, v451), (79, (Value.bool true)), (82, (σ 7)), (79, (Value.bool true)), (81, v448), (79, (Value.bool true)), (80, v445), (79, (Value.bool true)), (79, undef), (76, (Value.bool true)), (78, undef), (76, (Value.bool true)), (77, undef), (76, (Value.bool true)), (76, v440), (75, v440), (74, undef), (67, (Value.tuple c143)), (73, undef), (67, (Value.tuple c143)), (72, undef), (67, (Value.tuple c143)), (71, undef), (67, (Value.tuple c143)), (70, undef), (67, (Value.tuple c143)), (69, undef), (67, (Value.tuple c143)), (68, undef), (67, (Value.tuple c143)), (67, v140), (66, v140), (65, v137), (64, v134), (63, (σ 7)), (62, v131), (61, v128)]) h476 k)
  (dr (cPick (Value.bool true) (Go.Value.bool true) undef fun v480 =>
  rety v480 h441) fun v478 h479 =>
  g132_C18 call lf (updL σ [(93, v478), (92, undef), (76, (Value.bool true)), (91, undef), (79, (Value.bool false)), (90, undef), (79, (Value.bool false)), (89, undef), (79, (Value.bool false)), (88, undef), (79, (Value.bool false)), (87, undef), (79, (Value.bool false)), (86, undef), (79, (Value.bool false)), (85, undef), (79, (Value.bool false)), (84, undef), (79, (Value.bool false)), (83, undef), (79, (Value.bool false)), (82, undef), (79, (Value.bool false)), (81, undef), (79, (Value.bool false)), (80, undef), (79, (Value.bool false)), (79, undef), (76, (Value.bool true)), (78, undef), (76, (Value.bool true)), (77, undef), (76, (Value.bool true)), (76, v440), (75, v440), (74, undef), (67, (Value.tuple c143)), (73, undef), (67, (Value.tuple c143)), (72, undef), (67, (Value.tuple c143)), (71, undef), (67, (Value.tuple c143)), (70, undef), (67, (Value.tuple c143)), (69, undef), (67, (Value.tuple c143)), (68, undef), (67, (Value.tuple c143)), (67, v140), (66, v140), (65, v137), (64, v134), (63, (σ 7)), (62, v131), (61, v128)]) h479 k)
  (fun c444 => dr (cPick (Value.bool true) (Go.Value.bool true) undef fun v483 =>
  rety v483 h441) fun v481 h482 =>
  g132_C18 call lf (updL σ [(93, v481), (92, undef), (76, (Value.bool true)), (91, undef), (79, (Value.tuple c444)), (90, undef), (79, (Value.tuple c444)), (89, undef), (79, (Value.tuple c444)), (88, undef), (79, (Value.tuple c444)), (87, undef), (79, (Value.tuple c444)), (86, undef), (79, (Value.tuple c444)), (85, undef), (79, (Value.tuple c444)), (84, undef), (79, (Value.tuple c444)), (83, undef), (79, (Value.tuple c444)), (82, undef), (79, (Value.tuple c444)), (81, undef), (79, (Value.tuple c444)), (80, undef), (79, (Value.tuple c444)), (79, undef), (76, (Value.bool true)), (78, undef), (76, (Value.bool true)), (77, undef), (76, (Value.bool true)), (76, v440), (75, v440), (74, undef), (67, (Value.tuple c143)), (73, undef), (67, (Value.tuple c143)), (72, undef), (67, (Value.tuple c143)), (71, undef), (67, (Value.tuple c143)), (70, undef), (67, (Value.tuple c143)), (69, undef), (67, (Value.tuple c143)), (68, undef), (67, (Value.tuple c143)), (67, v140), (66, v140), (65, v137), (64, v134), (63, (σ 7)), (62, v131), (61, v128)]) h482 k))
  (dr (cBin EK .gtr 3 (σ 7) (Go.Value.int Go.IntKind.i64 0) fun v486 =>
  rety v486 h441) fun v484 h485 =>
  gd v484
  (dr (cFieldAddr 1 (σ 2) fun v490 =>
  rety v490 h485) fun v488 h489 =>
  dr (cLoad1 (.slc) v488 h489 fun v493 =>
  rety v493 h489) fun v491 h492 =>
  dr (cIdxS 1 v491 (σ 7) fun v496 =>
  rety v496 h492) fun v494 h495 =>
  dr (cLoad1 (.int .i64) v494 h495 fun v499 =>
  rety v499 h495) fun v497 h498 =>
  dr (cFieldAddr 1 (σ 2) fun v502 =>
  rety v502 h498) fun v500 h501 =>
  dr (cLoad1 (.slc) v500 h501 fun v505 =>
  rety v505 h501) fun v503 h504 =>
  dr (cBin EK .sub 3 (σ 7) (Go.Value.int Go.IntKind.i64 1) fun v508 =>
  rety v508 h504) fun v506 h507 =>
  dr (cIdxS 1 v503 v506 fun v511 =>
  rety v511 h507) fun v509 h510 =>
  dr (cLoad1 (.int .i64) v509 h510 fun v514 =>
  rety v514 h510) fun v512 h513 =>
  dr (cBin EK .leq 3 v497 v512 fun v517 =>
  rety v517 h513) fun v515 h516 =>
  dr (cPick (Value.bool true) v515 (Go.Value.bool false) fun v520 =>
  rety v520 h516) fun v518 h519 =>
  dr (cPick (Value.bool false) (Go.Value.bool true) v518 fun v523 =>
  rety v523 h519) fun v521 h522 =>
  g132_C18 call lf (updL σ [(93, v521), (92, v518), (76, (Value.bool false)), (91, v515), (79, (Value.bool true)), (90, v512), (79, (Value.bool true)), (89, v509), (79, (Value.bool true)), (88, v506), (79, (Value.bool true)), (87, (σ 7)), (79, (Value.bool true)), (86, v503), (79, (Value.bool true)), (85, v500), (79, (Value.bool true)), (84, v497), (79, (Value.bool true)), (83, v494), (79, (Value.bool true)), (82, (σ 7)), (79, (Value.bool true)), (81, v491), (79, (Value.bool true)), (80, v488), (79, (Value.bool true)), (79, v484), (76, (Value.bool false)), (78, v484), (76, (Value.bool false)), (77, (σ 7)), (76, (Value.bool false)), (76, v440), (75, v440), (74, undef), (67, (Value.tuple c143)), (73, undef), (67, (Value.tuple c143)), (72, undef), (67, (Value.tuple c143)), (71, undef), (67, (Value.tuple c143)), (70, undef), (67, (Value.tuple c143)), (69, undef), (67, (Value.tuple c143)), (68, undef), (67, (Value.tuple c143)), (67, v140), (66, v140), (65, v137), (64, v134), (63, (σ 7)), (62, v131), (61, v128)]) h522 k)
  (dr (cPick (Value.bool false) undef (Go.Value.bool false) fun v526 =>
  rety v526 h485) fun v524 h525 =>
  dr (cPick (Value.bool false) (Go.Value.bool true) v524 fun v529 =>
  rety v529 h525) fun v527 h528 =>
  g132_C18 call lf (updL σ [(93, v527), (92, v524), (76, (Value.bool false)), (91, undef), (79, (Value.bool false)), (90, undef), (79, (Value.bool false)), (89, undef), (79, (Value.bool false)), (88, undef), (79, (Value.bool false)), (87, undef), (79, (Value.bool false)), (86, undef), (79, (Value.bool false)), (85, undef), (79, (Value.bool false)), (84, undef), (79, (Value.bool false)), (83, undef), (79, (Value.bool false)), (82, undef), (79, (Value.bool false)), (81, undef), (79, (Value.bool false)), (80, undef), (79, (Value.bool false)), (79, v484), (76, (Value.bool false)), (78, v484), (76, (Value.bool false)), (77, (σ 7)), (76, (Value.bool false)), (76, v440), (75, v440), (74, undef), (67, (Value.tuple c143)), (73, undef), (67, (Value.tuple c143)), (72, undef), (67, (Value.tuple c143)), (71, undef), (67, (Value.tuple c143)), (70, undef), (67, (Value.tuple c143)), (69, undef), (67, (Value.tuple c143)), (68, undef), (67, (Value.tuple c143)), (67, v140), (66, v140), (65, v137), (64, v134), (63, (σ 7)), (62, v131), (61, v128)]) h528 k)
  (fun c487 => dr (cPick (Value.tuple c487) undef (Go.Value.bool false) fun v532 =>
  rety v532 h485) fun v530 h531 =>
  dr (cPick (Value.bool false) (Go.Value.bool true) v530 fun v535 =>
  rety v535 h531) fun v533 h534 =>
  g132_C18 call lf (updL σ [(93, v533), (92, v530), (76, (Value.bool false)), (91, undef), (79, (Value.tuple c487)), (90, undef), (79, (Value.tuple c487)), (89, undef), (79, (Value.tuple c487)), (88, undef), (79, (Value.tuple c487)), (87, undef), (79, (Value.tuple c487)), (86, undef), (79, (Value.tuple c487)), (85, undef), (79, (Value.tuple c487)), (84, undef), (79, (Value.tuple c487)), (83, undef), (79, (Value.tuple c487)), (82, undef), (79, (Value.tuple c487)), (81, undef), (79, (Value.tuple c487)), (80, undef), (79, (Value.tuple c487)), (79, v484), (76, (Value.bool false)), (78, v484), (76, (Value.bool false)), (77, (σ 7)), (76, (Value.bool false)), (76, v440), (75, v440), (74, undef), (67, (Value.tuple c143)), (73, undef), (67, (Value.tuple c143)), (72, undef), (67, (Value.tuple c143)), (71, undef), (67, (Value.tuple c143)), (70, undef), (67, (Value.tuple c143)), (69, undef), (67, (Value.tuple c143)), (68, undef), (67, (Value.tuple c143)), (67, v140), (66, v140), (65, v137), (64, v134), (63, (σ 7)), (62, v131), (61, v128)]) h534 k))
  (fun c443 => gd undef
  (dr (cFieldAddr 1 (σ 2) fun v539 =>
  rety v539 h441) fun v537 h538 =>
  dr (cLoad1 (.slc) v537 h538 fun v542 =>
  rety v542 h538) fun v540 h541 =>
  dr (cIdxS 1 v540 (σ 7) fun v545 =>
  rety v545 h541) fun v543 h544 =>
  dr (cLoad1 (.int .i64) v543 h544 fun v548 =>
  rety v548 h544) fun v546 h547 =>
  dr (cFieldAddr 1 (σ 2) fun v551 =>
  rety v551 h547) fun v549 h550 =>
  dr (cLoad1 (.slc) v549 h550 fun v554 =>
  rety v554 h550) fun v552 h553 =>
  dr (cBin EK .sub 3 (σ 7) (Go.Value.int Go.IntKind.i64 1) fun v557 =>
  rety v557 h553) fun v555 h556 =>
  dr (cIdxS 1 v552 v555 fun v560 =>
  rety v560 h556) fun v558 h559 =>
  dr (cLoad1 (.int .i64) v558 h559 fun v563 =>
  rety v563 h559) fun v561 h562 =>
  dr (cBin EK .leq 3 v546 v561 fun v566 =>
  rety v566 h562) fun v564 h565 =>
  dr (cPick (Value.tuple c443) (Go.Value.bool true) undef fun v569 =>
  rety v569 h565) fun v567 h568 =>
  g132_C18 call lf (updL σ [(93, v567), (92, undef), (76, (Value.tuple c443)), (91, v564), (79, (Value.bool true)), (90, v561), (79, (Value.bool true)), (89, v558), (79, (Value.bool true)), (88, v555), (79, (Value.bool true)), (87, (σ 7)), (79, (Value.bool true)), (86, v552), (79, (Value.bool true)), (85, v549), (79, (Value.bool true)), (84, v546), (79, (Value.bool true)), (83, v543), (79, (Value.bool true)), (82, (σ 7)), (79, (Value.bool true)), (81, v540), (79, (Value.bool true)), (80, v537), (79, (Value.bool true)), (79, undef), (76, (Value.tuple c443)), (78, undef), (76, (Value.tuple c443)), (77, undef), (76, (Value.tuple c443)), (76, v440), (75, v440), (74, undef), (67, (Value.tuple c143)), (73, undef), (67, (Value.tuple c143)), (72, undef), (67, (Value.tuple c143)), (71, undef), (67, (Value.tuple c143)), (70, undef), (67, (Value.tuple c143)), (69, undef), (67, (Value.tuple c143)), (68, undef), (67, (Value.tuple c143)), (67, v140), (66, v140), (65, v137), (64, v134), (63, (σ 7)), (62, v131), (61, v128)]) h568 k)
  (dr (cPick (Value.tuple c443) (Go.Value.bool true) undef fun v572 =>
  rety v572 h441) fun v570 h571 =>
  g132_C18 call lf (updL σ [(93, v570), (92, undef), (76, (Value.tuple c443)), (91, undef), (79, (Value.bool false)), (90, undef), (79, (Value.bool false)), (89, undef), (79, (Value.bool false)), (88, undef), (79, (Value.bool false)), (87, undef), (79, (Value.bool false)), (86, undef), (79, (Value.bool false)), (85, undef), (79, (Value.bool false)), (84, undef), (79, (Value.bool false)), (83, undef), (79, (Value.bool false)), (82, undef), (79, (Value.bool false)), (81, undef), (79, (Value.bool false)), (80, undef), (79, (Value.bool false)), (79, undef), (76, (Value.tuple c443)), (78, undef), (76, (Value.tuple c443)), (77, undef), (76, (Value.tuple c443)), (76, v440), (75, v440), (74, undef), (67, (Value.tuple c143)), (73, undef), (67, (Value.tuple c143)), (72, undef), (67, (Value.tuple c143)), (71, undef), (67, (Value.tuple c143)), (70, undef), (67, (Value.tuple c143)), (69, undef), (67, (Value.tuple c143)), (68, undef), (67, (Value.tuple c143)), (67, v140), (66, v140), (65, v137), (64, v134), (63, (σ 7)), (62, v131), (61, v128)]) h571 k)
  (fun c536 => dr (cPick (Value.tuple c443) (Go.Value.bool true) undef fun v575 =>
  rety v575 h441) fun v573 h574 =>
  g132_C18 call lf (updL σ [(93, v573), (92, undef), (76, (Value.tuple c443)), (91, undef), (79, (Value.tuple c536)), (90, undef), (79, (Value.tuple c536)), (89, undef), (79, (Value.tuple c536)), (88, undef), (79, (Value.tuple c536)), (87, undef), (79, (Value.tuple c536)), (86, undef), (79, (Value.tuple c536)), (85, undef), (79, (Value.tuple c536)), (84, undef), (79, (Value.tuple c536)), (83, undef), (79, (Value.tuple c536)), (82, undef), (79, (Value.tuple c536)), (81, undef), (79, (Value.tuple c536)), (80, undef), (79, (Value.tuple c536)), (79, undef), (76, (Value.tuple c443)), (78, undef), (76, (Value.tuple c443)), (77, undef), (76, (Value.tuple c443)), (76, v440), (75, v440), (74, undef), (67, (Value.tuple c143)), (73, undef), (67, (Value.tuple c143)), (72, undef), (67, (Value.tuple c143)), (71, undef), (67, (Value.tuple c143)), (70, undef), (67, (Value.tuple c143)), (69, undef), (67, (Value.tuple c143)), (68, undef), (67, (Value.tuple c143)), (67, v140), (66, v140), (65, v137), (64, v134), (63, (σ 7)), (62, v131), (61, v128)]) h574 k)))
theorem g132_C17_eq (call : Call) (lf : Nat) (σ : St) (h : AHeap) (k : KS) : evCodeS EK call (drOf EK 132) lf (cAt [1, 1, 1, 1, 1, 1, 1, 0, 1, 0, 0, 1] (bodyOf Try.f132)) σ h k = g132_C17 call lf σ h k :=
  seq_eq (a := cAt [1, 1, 1, 1, 1, 1, 1, 0, 1, 0, 0, 1, 0] (bodyOf Try.f132)) (b := cAt [1, 1, 1, 1, 1, 1, 1, 0, 1, 0, 0, 1, 1] (bodyOf Try.f132)) (by kernel_rfl) (fun σ h => g132_C20_eq call lf σ h k) (blk_eq (b := cAt [1, 1, 1, 1, 1, 1, 1, 0, 1, 0, 0, 1, 0, 0] (bodyOf Try.f132)) (i := 1) (by kernel_rfl) (seq_eq (a := cAt [1, 1, 1, 1, 1, 1, 1, 0, 1, 0, 0, 1, 0, 0, 0] (bodyOf Try.f132)) (b := cAt [1, 1, 1, 1, 1, 1, 1, 0, 1, 0, 0, 1, 0, 0, 1] (bodyOf Try.f132)) (by kernel_rfl) (fun σ h => g132_C18_eq call lf σ h k) (by kernel_rfl)))
noncomputable def g132_C16 (call : Call) (lf : Nat) (σ : St) (h : AHeap) (k : KS) : Option Ans :=
  cIf (σ 58)
  (g132_C17 call lf σ h k)
  (k (.exit 0) σ h)
theorem g132_C16_eq (call : Call) (lf : Nat) (σ : St) (h : AHeap) (k : KS) : evCodeS EK call (drOf EK 132) lf (cAt [1, 1, 1, 1, 1, 1, 1, 0, 1, 0, 0, 0, 1] (bodyOf Try.f132)) σ h (hSeq (fun σ h => g132_C17 call lf σ h k) k) = g132_C16 call lf σ h k :=
  cond_eq (a := cAt [1, 1, 1, 1, 1, 1, 1, 0, 1, 0, 0, 0, 1, 0] (bodyOf Try.f132)) (b := cAt [1, 1, 1, 1, 1, 1, 1, 0, 1, 0, 0, 0, 1, 1] (bodyOf Try.f132)) (x := .tmp 58) (by kernel_rfl) (by kernel_rfl) (by kernel_rfl)
noncomputable def g132_L15 (call : Call) (lf : Nat) (σ : St) (h : AHeap) (k : KS) : Option Ans :=
  cFieldAddr 1 (σ 2) fun v118 =>
  cLoad1 (.slc) v118 h fun v121 =>
  cLenS v121 fun v124 =>
  cBin EK .lss 3 (σ 7) v124 fun v127 =>
  g132_C16 call lf (updL σ [(58, v127), (57, v124), (56, v121), (55, v118), (54, (σ 7))]) h k
theorem g132_L15_eq (call : Call) (lf : Nat) (σ : St) (h : AHeap) (k : KS) : evCodeS EK call (drOf EK 132) lf (cAt [1, 1, 1, 1, 1, 1, 1, 0, 1, 0, 0] (bodyOf Try.f132)) σ h k = g132_L15 call lf σ h k :=
  seq_eq (a := cAt [1, 1, 1, 1, 1, 1, 1, 0, 1, 0, 0, 0] (bodyOf Try.f132)) (b := cAt [1, 1, 1, 1, 1, 1, 1, 0, 1, 0, 0, 1] (bodyOf Try.f132)) (by kernel_rfl) (fun σ h => g132_C17_eq call lf σ h k) (seq_eq (a := cAt [1, 1, 1, 1, 1, 1, 1, 0, 1, 0, 0, 0, 0] (bodyOf Try.f132)) (b := cAt [1, 1, 1, 1, 1, 1, 1, 0, 1, 0, 0, 0, 1] (bodyOf Try.f132)) (by kernel_rfl) (fun σ h => g132_C16_eq call lf σ h k) (by kernel_rfl))
noncomputable def g132_C22 (call : Call) (lf : Nat) (σ : St) (h : AHeap) (k : KS) : Option Ans :=
  k .ret σ h
theorem g132_C22_eq (call : Call) (lf : Nat) (σ : St) (h : AHeap) (k : KS) : evCodeS EK call (drOf EK 132) lf (cAt [1, 1, 1, 1, 1, 1, 1, 1, 1] (bodyOf Try.f132)) σ h k = g132_C22 call lf σ h k :=
  by kernel_rfl
noncomputable def g132_C21 (call : Call) (lf : Nat) (σ : St) (h : AHeap) (k : KS) : Option Ans :=
  g132_C22 call lf (updL σ [(4, (Go.Value.int Go.IntKind.i64 0))]) h k
theorem g132_C21_eq (call : Call) (lf : Nat) (σ : St) (h : AHeap) (k : KS) : evCodeS EK call (drOf EK 132) lf (cAt [1, 1, 1, 1, 1, 1, 1, 1] (bodyOf Try.f132)) σ h k = g132_C21 call lf σ h k :=
  seq_eq (a := cAt [1, 1, 1, 1, 1, 1, 1, 1, 0] (bodyOf Try.f132)) (b := cAt [1, 1, 1, 1, 1, 1, 1, 1, 1] (bodyOf Try.f132)) (by kernel_rfl) (fun σ h => g132_C22_eq call lf σ h k) (by kernel_rfl)
noncomputable def g132_C14 (call : Call) (lf : Nat) (σ : St) (h : AHeap) (k : KS) : Option Ans :=
  loopS (g132_L15 call lf) lf σ h (hBlk 0 (hSeq (fun σ h => g132_C21 call lf σ h k) k))
theorem g132_C14_eq (call : Call) (lf : Nat) (σ : St) (h : AHeap) (k : KS) : evCodeS EK call (drOf EK 132) lf (cAt [1, 1, 1, 1, 1, 1, 1, 0, 1] (bodyOf Try.f132)) σ h (hSeq (fun σ h => g132_C21 call lf σ h k) k) = g132_C14 call lf σ h k :=
  blk_eq (b := cAt [1, 1, 1, 1, 1, 1, 1, 0, 1, 0] (bodyOf Try.f132)) (i := 0) (by kernel_rfl) (loop_eq (b := cAt [1, 1, 1, 1, 1, 1, 1, 0, 1, 0, 0] (bodyOf Try.f132)) (by kernel_rfl) (fun σ h k => g132_L15_eq call lf σ h k))
noncomputable def g132_C13 (call : Call) (lf : Nat) (σ : St) (h : AHeap) (k : KS) : Option Ans :=
  g132_C14 call lf (updL σ [(7, (Go.Value.int Go.IntKind.i64 0))]) h k
theorem g132_C13_eq (call : Call) (lf : Nat) (σ : St) (h : AHeap) (k : KS) : evCodeS EK call (drOf EK 132) lf (cAt [1, 1, 1, 1, 1, 1, 1] (bodyOf Try.f132)) σ h k = g132_C13 call lf σ h k :=
  seq_eq (a := cAt [1, 1, 1, 1, 1, 1, 1, 0] (bodyOf Try.f132)) (b := cAt [1, 1, 1, 1, 1, 1, 1, 1] (bodyOf Try.f132)) (by kernel_rfl) (fun σ h => g132_C21_eq call lf σ h k) (seq_eq (a := cAt [1, 1, 1, 1, 1, 1, 1, 0, 0] (bodyOf Try.f132)) (b := cAt [1, 1, 1, 1, 1, 1, 1, 0, 1] (bodyOf Try.f132)) (by kernel_rfl) (fun σ h => g132_C14_eq call lf σ h k) (by kernel_rfl))
noncomputable def g132_C12 (call : Call) (lf : Nat) (σ : St) (h : AHeap) (k : KS) : Option Ans :=
  k .ret σ h
theorem g132_C12_eq (call : Call) (lf : Nat) (σ : St) (h : AHeap) (k : KS) : evCodeS EK call (drOf EK 132) lf (cAt [1, 1, 1, 1, 1, 1, 0, 1, 0, 1] (bodyOf Try.f132)) σ h (hSeq (fun σ h => g132_C13 call lf σ h k) k) = g132_C12 call lf σ h k :=
  by kernel_rfl
noncomputable def g132_C11 (call : Call) (lf : Nat) (σ : St) (h : AHeap) (k : KS) : Option Ans :=
  cIf (σ 53)
  (g132_C12 call lf (updL σ [(4, (Go.Value.int Go.IntKind.i64 53))]) h k)
  (g132_C13 call lf σ h k)
theorem g132_C11_eq (call : Call) (lf : Nat) (σ : St) (h : AHeap) (k : KS) : evCodeS EK call (drOf EK 132) lf (cAt [1, 1, 1, 1, 1, 1, 0, 1] (bodyOf Try.f132)) σ h (hSeq (fun σ h => g132_C13 call lf σ h k) k) = g132_C11 call lf σ h k :=
  cond_eq (a := cAt [1, 1, 1, 1, 1, 1, 0, 1, 0] (bodyOf Try.f132)) (b := cAt [1, 1, 1, 1, 1, 1, 0, 1, 1] (bodyOf Try.f132)) (x := .tmp 53) (by kernel_rfl) (seq_eq (a := cAt [1, 1, 1, 1, 1, 1, 0, 1, 0, 0] (bodyOf Try.f132)) (b := cAt [1, 1, 1, 1, 1, 1, 0, 1, 0, 1] (bodyOf Try.f132)) (by kernel_rfl) (fun σ h => g132_C12_eq call lf σ h k) (by kernel_rfl)) (by kernel_rfl)
noncomputable def g132_C10 (call : Call) (lf : Nat) (σ : St) (h : AHeap) (k : KS) : Option Ans :=
  cUn .not (σ 6) fun v109 =>
  g132_C11 call lf (updL σ [(53, v109), (52, (σ 6))]) h k
theorem g132_C10_eq (call : Call) (lf : Nat) (σ : St) (h : AHeap) (k : KS) : evCodeS EK call (drOf EK 132) lf (cAt [1, 1, 1, 1, 1, 1] (bodyOf Try.f132)) σ h k = g132_C10 call lf σ h k :=
  seq_eq (a := cAt [1, 1, 1, 1, 1, 1, 0] (bodyOf Try.f132)) (b := cAt [1, 1, 1, 1, 1, 1, 1] (bodyOf Try.f132)) (by kernel_rfl) (fun σ h => g132_C13_eq call lf σ h k) (seq_eq (a := cAt [1, 1, 1, 1, 1, 1, 0, 0] (bodyOf Try.f132)) (b := cAt [1, 1, 1, 1, 1, 1, 0, 1] (bodyOf Try.f132)) (by kernel_rfl) (fun σ h => g132_C11_eq call lf σ h k) (by kernel_rfl))
noncomputable def g132_C9 (call : Call) (lf : Nat) (σ : St) (h : AHeap) (k : KS) : Option Ans :=
  cIf (σ 49)
  (cBin EK .geq 3 (σ 5) (Go.Value.int Go.IntKind.i64 2) fun v102 =>
  g132_C10 call lf (updL σ [(6, v102), (51, v102), (50, (σ 5))]) h k)
  (g132_C10 call lf σ h k)
theorem g132_C9_eq (call : Call) (lf : Nat) (σ : St) (h : AHeap) (k : KS) : evCodeS EK call (drOf EK 132) lf (cAt [1, 1, 1, 1, 1, 0, 1] (bodyOf Try.f132)) σ h (hSeq (fun σ h => g132_C10 call lf σ h k) k) = g132_C9 call lf σ h k :=
  cond_eq (a := cAt [1, 1, 1, 1, 1, 0, 1, 0] (bodyOf Try.f132)) (b := cAt [1, 1, 1, 1, 1, 0, 1, 1] (bodyOf Try.f132)) (x := .tmp 49) (by kernel_rfl) (by kernel_rfl) (by kernel_rfl)
noncomputable def g132_C8 (call : Call) (lf : Nat) (σ : St) (h : AHeap) (k : KS) : Option Ans :=
  cFieldAddr 0 (σ 2) fun v85 =>
  cLoad1 (.int .i64) v85 h fun v88 =>
  cBin EK .eql 3 v88 (Go.Value.int Go.IntKind.i64 2) fun v91 =>
  gd v91
  (cPick (Value.bool true) (Go.Value.bool true) undef fun v97 =>
  g132_C9 call lf (updL σ [(49, v97), (48, undef), (45, (Value.bool true)), (47, undef), (45, (Value.bool true)), (46, undef), (45, (Value.bool true)), (45, v91), (44, v91), (43, v88), (42, v85)]) h k)
  (cFieldAddr 0 (σ 2) fun v580 =>
  cLoad1 (.int .i64) v580 h fun v583 =>
  cBin EK .eql 3 v583 (Go.Value.int Go.IntKind.i64 3) fun v586 =>
  cPick (Value.bool false) (Go.Value.bool true) v586 fun v589 =>
  g132_C9 call lf (updL σ [(49, v589), (48, v586), (45, (Value.bool false)), (47, v583), (45, (Value.bool false)), (46, v580), (45, (Value.bool false)), (45, v91), (44, v91), (43, v88), (42, v85)]) h k)
  (fun c94 => cPick (Value.tuple c94) (Go.Value.bool true) undef fun v592 =>
  g132_C9 call lf (updL σ [(49, v592), (48, undef), (45, (Value.tuple c94)), (47, undef), (45, (Value.tuple c94)), (46, undef), (45, (Value.tuple c94)), (45, v91), (44, v91), (43, v88), (42, v85)]) h k)
theorem g132_C8_eq (call : Call) (lf : Nat) (σ : St) (h : AHeap) (k : KS) : evCodeS EK call (drOf EK 132) lf (cAt [1, 1, 1, 1, 1] (bodyOf Try.f132)) σ h k = g132_C8 call lf σ h k :=
  seq_eq (a := cAt [1, 1, 1, 1, 1, 0] (bodyOf Try.f132)) (b := cAt [1, 1, 1, 1, 1, 1] (bodyOf Try.f132)) (by kernel_rfl) (fun σ h => g132_C10_eq call lf σ h k) (seq_eq (a := cAt [1, 1, 1, 1, 1, 0, 0] (bodyOf Try.f132)) (b := cAt [1, 1, 1, 1, 1, 0, 1] (bodyOf Try.f132)) (by kernel_rfl) (fun σ h => g132_C9_eq call lf σ h k) (by kernel_rfl))
noncomputable def g132_C7 (call : Call) (lf : Nat) (σ : St) (h : AHeap) (k : KS) : Option Ans :=
  cIf (σ 39)
  (cBin EK .eql 3 (σ 5) (Go.Value.int Go.IntKind.i64 0) fun v80 =>
  g132_C8 call lf (updL σ [(6, v80), (41, v80), (40, (σ 5))]) h k)
  (g132_C8 call lf σ h k)
theorem g132_C7_eq (call : Call) (lf : Nat) (σ : St) (h : AHeap) (k : KS) : evCodeS EK call (drOf EK 132) lf (cAt [1, 1, 1, 1, 0, 1] (bodyOf Try.f132)) σ h (hSeq (fun σ h => g132_C8 call lf σ h k) k) = g132_C7 call lf σ h k :=
  cond_eq (a := cAt [1, 1, 1, 1, 0, 1, 0] (bodyOf Try.f132)) (b := cAt [1, 1, 1, 1, 0, 1, 1] (bodyOf Try.f132)) (x := .tmp 39) (by kernel_rfl) (by kernel_rfl) (by kernel_rfl)
noncomputable def g132_C6 (call : Call) (lf : Nat) (σ : St) (h : AHeap) (k : KS) : Option Ans :=
  cFieldAddr 0 (σ 2) fun v63 =>
  cLoad1 (.int .i64) v63 h fun v66 =>
  cBin EK .eql 3 v66 (Go.Value.int Go.IntKind.i64 0) fun v69 =>
  gd v69
  (cPick (Value.bool true) (Go.Value.bool true) undef fun v75 =>
  g132_C7 call lf (updL σ [(39, v75), (38, undef), (35, (Value.bool true)), (37, undef), (35, (Value.bool true)), (36, undef), (35, (Value.bool true)), (35, v69), (34, v69), (33, v66), (32, v63)]) h k)
  (cFieldAddr 0 (σ 2) fun v595 =>
  cLoad1 (.int .i64) v595 h fun v598 =>
  cBin EK .eql 3 v598 (Go.Value.int Go.IntKind.i64 1) fun v601 =>
  cPick (Value.bool false) (Go.Value.bool true) v601 fun v604 =>
  g132_C7 call lf (updL σ [(39, v604), (38, v601), (35, (Value.bool false)), (37, v598), (35, (Value.bool false)), (36, v595), (35, (Value.bool false)), (35, v69), (34, v69), (33, v66), (32, v63)]) h k)
  (fun c72 => cPick (Value.tuple c72) (Go.Value.bool true) undef fun v607 =>
  g132_C7 call lf (updL σ [(39, v607), (38, undef), (35, (Value.tuple c72)), (37, undef), (35, (Value.tuple c72)), (36, undef), (35, (Value.tuple c72)), (35, v69), (34, v69), (33, v66), (32, v63)]) h k)
theorem g132_C6_eq (call : Call) (lf : Nat) (σ : St) (h : AHeap) (k : KS) : evCodeS EK call (drOf EK 132) lf (cAt [1, 1, 1, 1] (bodyOf Try.f132)) σ h k = g132_C6 call lf σ h k :=
  seq_eq (a := cAt [1, 1, 1, 1, 0] (bodyOf Try.f132)) (b := cAt [1, 1, 1, 1, 1] (bodyOf Try.f132)) (by kernel_rfl) (fun σ h => g132_C8_eq call lf σ h k) (seq_eq (a := cAt [1, 1, 1, 1, 0, 0] (bodyOf Try.f132)) (b := cAt [1, 1, 1, 1, 0, 1] (bodyOf Try.f132)) (by kernel_rfl) (fun σ h => g132_C7_eq call lf σ h k) (by kernel_rfl))
noncomputable def g132_C5 (call : Call) (lf : Nat) (σ : St) (h : AHeap) (k : KS) : Option Ans :=
  cBin EK .eql 3 (σ 5) (Go.Value.int Go.IntKind.i64 1) fun v58 =>
  g132_C6 call lf (updL σ [(6, v58), (31, v58), (30, (σ 5))]) h k
theorem g132_C5_eq (call : Call) (lf : Nat) (σ : St) (h : AHeap) (k : KS) : evCodeS EK call (drOf EK 132) lf (cAt [1, 1, 1] (bodyOf Try.f132)) σ h k = g132_C5 call lf σ h k :=
  seq_eq (a := cAt [1, 1, 1, 0] (bodyOf Try.f132)) (b := cAt [1, 1, 1, 1] (bodyOf Try.f132)) (by kernel_rfl) (fun σ h => g132_C6_eq call lf σ h k) (by kernel_rfl)
noncomputable def g132_C4 (call : Call) (lf : Nat) (σ : St) (h : AHeap) (k : KS) : Option Ans :=
  cFieldAddr 2 (σ 2) fun v45 =>
  cLoad1 (.slc) v45 h fun v48 =>
  cLenS v48 fun v51 =>
  g132_C5 call lf (updL σ [(5, v51), (29, v51), (28, v48), (27, v45)]) h k
theorem g132_C4_eq (call : Call) (lf : Nat) (σ : St) (h : AHeap) (k : KS) : evCodeS EK call (drOf EK 132) lf (cAt [1, 1] (bodyOf Try.f132)) σ h k = g132_C4 call lf σ h k :=
  seq_eq (a := cAt [1, 1, 0] (bodyOf Try.f132)) (b := cAt [1, 1, 1] (bodyOf Try.f132)) (by kernel_rfl) (fun σ h => g132_C5_eq call lf σ h k) (by kernel_rfl)
noncomputable def g132_C3 (call : Call) (lf : Nat) (σ : St) (h : AHeap) (k : KS) : Option Ans :=
  k .ret σ h
theorem g132_C3_eq (call : Call) (lf : Nat) (σ : St) (h : AHeap) (k : KS) : evCodeS EK call (drOf EK 132) lf (cAt [1, 0, 1, 0, 1] (bodyOf Try.f132)) σ h (hSeq (fun σ h => g132_C4 call lf σ h k) k) = g132_C3 call lf σ h k :=
  by kernel_rfl
noncomputable def g132_C2 (call : Call) (lf : Nat) (σ : St) (h : AHeap) (k : KS) : Option Ans :=
  cIf (σ 26)
  (g132_C3 call lf (updL σ [(4, (Go.Value.int Go.IntKind.i64 53))]) h k)
  (g132_C4 call lf σ h k)
theorem g132_C2_eq (call : Call) (lf : Nat) (σ : St) (h : AHeap) (k : KS) : evCodeS EK call (drOf EK 132) lf (cAt [1, 0, 1] (bodyOf Try.f132)) σ h (hSeq (fun σ h => g132_C4 call lf σ h k) k) = g132_C2 call lf σ h k :=
  cond_eq (a := cAt [1, 0, 1, 0] (bodyOf Try.f132)) (b := cAt [1, 0, 1, 1] (bodyOf Try.f132)) (x := .tmp 26) (by kernel_rfl) (seq_eq (a := cAt [1, 0, 1, 0, 0] (bodyOf Try.f132)) (b := cAt [1, 0, 1, 0, 1] (bodyOf Try.f132)) (by kernel_rfl) (fun σ h => g132_C3_eq call lf σ h k) (by kernel_rfl)) (by kernel_rfl)
noncomputable def g132_C1 (call : Call) (lf : Nat) (σ : St) (h : AHeap) (k : KS) : Option Ans :=
  cFieldAddr 0 (σ 2) fun v9 =>
  cLoad1 (.int .i64) v9 h fun v12 =>
  cBin EK .lss 3 v12 (Go.Value.int Go.IntKind.i64 0) fun v15 =>
  gd v15
  (cPick (Value.bool true) (Go.Value.bool true) undef fun v21 =>
  gd v21
  (gd undef
  (cFieldAddr 1 (σ 2) fun v28 =>
  cLoad1 (.slc) v28 h fun v31 =>
  cLenS v31 fun v34 =>
  cBin EK .gtr 3 v34 (Go.Value.int Go.IntKind.i64 0) fun v37 =>
  cPick (Value.bool true) (Go.Value.bool true) undef fun v40 =>
  g132_C2 call lf (updL σ [(26, v40), (25, undef), (16, (Value.bool true)), (24, v37), (20, (Value.bool true)), (23, v34), (20, (Value.bool true)), (22, v31), (20, (Value.bool true)), (21, v28), (20, (Value.bool true)), (20, undef), (16, (Value.bool true)), (19, undef), (16, (Value.bool true)), (18, undef), (16, (Value.bool true)), (17, undef), (16, (Value.bool true)), (16, v21), (15, v21), (14, undef), (11, (Value.bool true)), (13, undef), (11, (Value.bool true)), (12, undef), (11, (Value.bool true)), (11, v15), (10, v15), (9, v12), (8, v9)]) h k)
  (cPick (Value.bool true) (Go.Value.bool true) undef fun v610 =>
  g132_C2 call lf (updL σ [(26, v610), (25, undef), (16, (Value.bool true)), (24, undef), (20, (Value.bool false)), (23, undef), (20, (Value.bool false)), (22, undef), (20, (Value.bool false)), (21, undef), (20, (Value.bool false)), (20, undef), (16, (Value.bool true)), (19, undef), (16, (Value.bool true)), (18, undef), (16, (Value.bool true)), (17, undef), (16, (Value.bool true)), (16, v21), (15, v21), (14, undef), (11, (Value.bool true)), (13, undef), (11, (Value.bool true)), (12, undef), (11, (Value.bool true)), (11, v15), (10, v15), (9, v12), (8, v9)]) h k)
  (fun c25 => cPick (Value.bool true) (Go.Value.bool true) undef fun v613 =>
  g132_C2 call lf (updL σ [(26, v613), (25, undef), (16, (Value.bool true)), (24, undef), (20, (Value.tuple c25)), (23, undef), (20, (Value.tuple c25)), (22, undef), (20, (Value.tuple c25)), (21, undef), (20, (Value.tuple c25)), (20, undef), (16, (Value.bool true)), (19, undef), (16, (Value.bool true)), (18, undef), (16, (Value.bool true)), (17, undef), (16, (Value.bool true)), (16, v21), (15, v21), (14, undef), (11, (Value.bool true)), (13, undef), (11, (Value.bool true)), (12, undef), (11, (Value.bool true)), (11, v15), (10, v15), (9, v12), (8, v9)]) h k))
  (cFieldAddr 0 (σ 2) fun v616 =>
  cLoad1 (.int .i64) v616 h fun v619 =>
  cBin EK .neq 3 v619 (Go.Value.int Go.IntKind.i64 1) fun v622 =>
  gd v622
  (cFieldAddr 1 (σ 2) fun v628 =>
  cLoad1 (.slc) v628 h fun v631 =>
  cLenS v631 fun v634 =>
  cBin EK .gtr 3 v634 (Go.Value.int Go.IntKind.i64 0) fun v637 =>
  cPick (Value.bool true) v637 (Go.Value.bool false) fun v640 =>
  cPick (Value.bool false) (Go.Value.bool true) v640 fun v643 =>
  g132_C2 call lf (updL σ [(26, v643), (25, v640), (16, (Value.bool false)), (24, v637), (20, (Value.bool true)), (23, v634), (20, (Value.bool true)), (22, v631), (20, (Value.bool true)), (21, v628), (20, (Value.bool true)), (20, v622), (16, (Value.bool false)), (19, v622), (16, (Value.bool false)), (18, v619), (16, (Value.bool false)), (17, v616), (16, (Value.bool false)), (16, v21), (15, v21), (14, undef), (11, (Value.bool true)), (13, undef), (11, (Value.bool true)), (12, undef), (11, (Value.bool true)), (11, v15), (10, v15), (9, v12), (8, v9)]) h k)
  (cPick (Value.bool false) undef (Go.Value.bool false) fun v646 =>
  cPick (Value.bool false) (Go.Value.bool true) v646 fun v649 =>
  g132_C2 call lf (updL σ [(26, v649), (25, v646), (16, (Value.bool false)), (24, undef), (20, (Value.bool false)), (23, undef), (20, (Value.bool false)), (22, undef), (20, (Value.bool false)), (21, undef), (20, (Value.bool false)), (20, v622), (16, (Value.bool false)), (19, v622), (16, (Value.bool false)), (18, v619), (16, (Value.bool false)), (17, v616), (16, (Value.bool false)), (16, v21), (15, v21), (14, undef), (11, (Value.bool true)), (13, undef), (11, (Value.bool true)), (12, undef), (11, (Value.bool true)), (11, v15), (10, v15), (9, v12), (8, v9)]) h k)
  (fun c625 => cPick (Value.tuple c625) undef (Go.Value.bool false) fun v652 =>
  cPick (Value.bool false) (Go.Value.bool true) v652 fun v655 =>
  g132_C2 call lf (updL σ [(26, v655), (25, v652), (16, (Value.bool false)), (24, undef), (20, (Value.tuple c625)), (23, undef), (20, (Value.tuple c625)), (22, undef), (20, (Value.tuple c625)), (21, undef), (20, (Value.tuple c625)), (20, v622), (16, (Value.bool false)), (19, v622), (16, (Value.bool false)), (18, v619), (16, (Value.bool false)), (17, v616), (16, (Value.bool false)), (16, v21), (15, v21), (14, undef), (11, (Value.bool true)), (13, undef), (11, (Value.bool true)), (12, undef), (11, (Value.bool true)), (11, v15), (10, v15), (9, v12), (8, v9)]) h k))
  (fun c24 => gd undef
  (cFieldAddr 1 (σ 2) fun v659 =>
  cLoad1 (.slc) v659 h fun v662 =>
  cLenS v662 fun v665 =>
  cBin EK .gtr 3 v665 (Go.Value.int Go.IntKind.i64 0) fun v668 =>
  cPick (Value.tuple c24) (Go.Value.bool true) undef fun v671 =>
  g132_C2 call lf (updL σ [(26, v671), (25, undef), (16, (Value.tuple c24)), (24, v668), (20, (Value.bool true)), (23, v665), (20, (Value.bool true)), (22, v662), (20, (Value.bool true)), (21, v659), (20, (Value.bool true)), (20, undef), (16, (Value.tuple c24)), (19, undef), (16, (Value.tuple c24)), (18, undef), (16, (Value.tuple c24)), (17, undef), (16, (Value.tuple c24)), (16, v21), (15, v21), (14, undef), (11, (Value.bool true)), (13, undef), (11, (Value.bool true)), (12, undef), (11, (Value.bool true)), (11, v15), (10, v15), (9, v12), (8, v9)]) h k)
  (cPick (Value.tuple c24) (Go.Value.bool true) undef fun v674 =>
  g132_C2 call lf (updL σ [(26, v674), (25, undef), (16, (Value.tuple c24)), (24, undef), (20, (Value.bool false)), (23, undef), (20, (Value.bool false)), (22, undef), (20, (Value.bool false)), (21, undef), (20, (Value.bool false)), (20, undef), (16, (Value.tuple c24)), (19, undef), (16, (Value.tuple c24)), (18, undef), (16, (Value.tuple c24)), (17, undef), (16, (Value.tuple c24)), (16, v21), (15, v21), (14, undef), (11, (Value.bool true)), (13, undef), (11, (Value.bool true)), (12, undef), (11, (Value.bool true)), (11, v15), (10, v15), (9, v12), (8, v9)]) h k)
  (fun c656 => cPick (Value.tuple c24) (Go.Value.bool true) undef fun v677 =>
  g132_C2 call lf (updL σ [(26, v677), (25, undef), (16, (Value.tuple c24)), (24, undef), (20, (Value.tuple c656)), (23, undef), (20, (Value.tuple c656)), (22, undef), (20, (Value.tuple c656)), (21, undef), (20, (Value.tuple c656)), (20, undef), (16, (Value.tuple c24)), (19, undef), (16, (Value.tuple c24)), (18, undef), (16, (Value.tuple c24)), (17, undef), (16, (Value.tuple c24)), (16, v21), (15, v21), (14, undef), (11, (Value.bool true)), (13, undef), (11, (Value.bool true)), (12, undef), (11, (Value.bool true)), (11, v15), (10, v15), (9, v12), (8, v9)]) h k)))
  (cFieldAddr 0 (σ 2) fun v680 =>
  cLoad1 (.int .i64) v680 h fun v683 =>
  cBin EK .gtr 3 v683 (Go.Value.int Go.IntKind.i64 6) fun v686 =>
  cPick (Value.bool false) (Go.Value.bool true) v686 fun v689 =>
  gd v689
  (gd undef
  (cFieldAddr 1 (σ 2) fun v696 =>
  cLoad1 (.slc) v696 h fun v699 =>
  cLenS v699 fun v702 =>
  cBin EK .gtr 3 v702 (Go.Value.int Go.IntKind.i64 0) fun v705 =>
  cPick (Value.bool true) (Go.Value.bool true) undef fun v708 =>
  g132_C2 call lf (updL σ [(26, v708), (25, undef), (16, (Value.bool true)), (24, v705), (20, (Value.bool true)), (23, v702), (20, (Value.bool true)), (22, v699), (20, (Value.bool true)), (21, v696), (20, (Value.bool true)), (20, undef), (16, (Value.bool true)), (19, undef), (16, (Value.bool true)), (18, undef), (16, (Value.bool true)), (17, undef), (16, (Value.bool true)), (16, v689), (15, v689), (14, v686), (11, (Value.bool false)), (13, v683), (11, (Value.bool false)), (12, v680), (11, (Value.bool false)), (11, v15), (10, v15), (9, v12), (8, v9)]) h k)
  (cPick (Value.bool true) (Go.Value.bool true) undef fun v711 =>
  g132_C2 call lf (updL σ [(26, v711), (25, undef), (16, (Value.bool true)), (24, undef), (20, (Value.bool false)), (23, undef), (20, (Value.bool false)), (22, undef), (20, (Value.bool false)), (21, undef), (20, (Value.bool false)), (20, undef), (16, (Value.bool true)), (19, undef), (16, (Value.bool true)), (18, undef), (16, (Value.bool true)), (17, undef), (16, (Value.bool true)), (16, v689), (15, v689), (14, v686), (11, (Value.bool false)), (13, v683), (11, (Value.bool false)), (12, v680), (11, (Value.bool false)), (11, v15), (10, v15), (9, v12), (8, v9)]) h k)
  (fun c693 => cPick (Value.bool true) (Go.Value.bool true) undef fun v714 =>
  g132_C2 call lf (updL σ [(26, v714), (25, undef), (16, (Value.bool true)), (24, undef), (20, (Value.tuple c693)), (23, undef), (20, (Value.tuple c693)), (22, undef), (20, (Value.tuple c693)), (21, undef), (20, (Value.tuple c693)), (20, undef), (16, (Value.bool true)), (19, undef), (16, (Value.bool true)), (18, undef), (16, (Value.bool true)), (17, undef), (16, (Value.bool true)), (16, v689), (15, v689), (14, v686), (11, (Value.bool false)), (13, v683), (11, (Value.bool false)), (12, v680), (11, (Value.bool false)), (11, v15), (10, v15), (9, v12), (8, v9)]) h k))
  (cFieldAddr 0 (σ 2) fun v717 =>
  cLoad1 (.int .i64) v717 h fun v720 =>
  cBin EK .neq 3 v720 (Go.Value.int Go.IntKind.i64 1) fun v723 =>
  gd v723
  (cFieldAddr 1 (σ 2) fun v729 =>
  cLoad1 (.slc) v729 h fun v732 =>
  cLenS v732 fun v735 =>
  cBin EK .gtr 3 v735 (Go.Value.int Go.IntKind.i64 0) fun v738 =>
  cPick (Value.bool true) v738 (Go.Value.bool false) fun v741 =>
  cPick (Value.bool false) (Go.Value.bool true) v741 fun v744 =>
  g132_C2 call lf (updL σ [(26, v744), (25, v741), (16, (Value.bool false)), (24, v738), (20, (Value.bool true)), (23, v735), (20, (Value.bool true)), (22, v732), (20, (Value.bool true)), (21, v729), (20, (Value.bool true)), (20, v723), (16, (Value.bool false)), (19, v723), (16, (Value.bool false)), (18, v720), (16, (Value.bool false)), (17, v717), (16, (Value.bool false)), (16, v689), (15, v689), (14, v686), (11, (Value.bool false)), (13, v683), (11, (Value.bool false)), (12, v680), (11, (Value.bool false)), (11, v15), (10, v15), (9, v12), (8, v9)]) h k)
  (cPick (Value.bool false) undef (Go.Value.bool false) fun v747 =>
  cPick (Value.bool false) (Go.Value.bool true) v747 fun v750 =>
  g132_C2 call lf (updL σ [(26, v750), (25, v747), (16, (Value.bool false)), (24, undef), (20, (Value.bool false)), (23, undef), (20, (Value.bool false)), (22, undef), (20, (Value.bool false)), (21, undef), (20, (Value.bool false)), (20, v723), (16, (Value.bool false)), (19, v723), (16, (Value.bool false)), (18, v720), (16, (Value.bool false)), (17, v717), (16, (Value.bool false)), (16, v689), (15, v689), (14, v686), (11, (Value.bool false)), (13, v683), (11, (Value.bool false)), (12, v680), (11, (Value.bool false)), (11, v15), (10, v15), (9, v12), (8, v9)]) h k)
  (fun c726 => cPick (Value.tuple c726) undef (Go.Value.bool false) fun v753 =>
  cPick (Value.bool false) (Go.Value.bool true) v753 fun v756 =>
  g132_C2 call lf (updL σ [(26, v756), (25, v753), (16, (Value.bool false)), (24, undef), (20, (Value.tuple c726)), (23, undef), (20, (Value.tuple c726)), (22, undef), (20, (Value.tuple c726)), (21, undef), (20, (Value.tuple c726)), (20, v723), (16, (Value.bool false)), (19, v723), (16, (Value.bool false)), (18, v720), (16, (Value.bool false)), (17, v717), (16, (Value.bool false)), (16, v689), (15, v689), (14, v686), (11, (Value.bool false)), (13, v683), (11, (Value.bool false)), (12, v680), (11, (Value.bool false)), (11, v15), (10, v15), (9, v12), (8, v9)]) h k))
  (fun c692 => gd undef
  (cFieldAddr 1 (σ 2) fun v760 =>
  cLoad1 (.slc) v760 h fun v763 =>
  cLenS v763 fun v766 =>
  cBin EK .gtr 3 v766 (Go.Value.int Go.IntKind.i64 0) fun v769 =>
  cPick (Value.tuple c692) (Go.Value.bool true) undef fun v772 =>
  g132_C2 call lf (updL σ [(26, v772), (25, undef), (16, (Value.tuple c692)), (24, v769), (20, (Value.bool true)), (23, v766), (20, (Value.bool true)), (22, v763), (20, (Value.bool true)), (21, v760), (20, (Value.bool true)), (20, undef), (16, (Value.tuple c692)), (19, undef), (16, (Value.tuple c692)), (18, undef), (16, (Value.tuple c692)), (17, undef), (16, (Value.tuple c692)), (16, v689), (15, v689), (14, v686), (11, (Value.bool false)), (13, v683), (11, (Value.bool false)), (12, v680), (11, (Value.bool false)), (11, v15), (10, v15), (9, v12), (8, v9)]) h k)
  (cPick (Value.tuple c692) (Go.Value.bool true) undef fun v775 =>
  g132_C2 call lf (updL σ [(26, v775), (25, undef), (16, (Value.tuple c692)), (24, undef), (20, (Value.bool false)), (23, undef), (20, (Value.bool false)), (22, undef), (20, (Value.bool false)), (21, undef), (20, (Value.bool false)), (20, undef), (16, (Value.tuple c692)), (19, undef), (16, (Value.tuple c692)), (18, undef), (16, (Value.tuple c692)), (17, undef), (16, (Value.tuple c692)), (16, v689), (15, v689), (14, v686), (11, (Value.bool false)), (13, v683), (11, (Value.bool false)), (12, v680), (11, (Value.bool false)), (11, v15), (10, v15), (9, v12), (8, v9)]) h k)
  (fun c757 => cPick (Value.tuple c692) (Go.Value.bool true) undef fun v778 =>
  g132_C2 call lf (updL σ [(26, v778), (25, undef), (16, (Value.tuple c692)), (24, undef), (20, (Value.tuple c757)), (23, undef), (20, (Value.tuple c757)), (22, undef), (20, (Value.tuple c757)), (21, undef), (20, (Value.tuple c757)), (20, undef), (16, (Value.tuple c692)), (19, undef), (16, (Value.tuple c692)), (18, undef), (16, (Value.tuple c692)), (17, undef), (16, (Value.tuple c692)), (16, v689), (15, v689), (14, v686), (11, (Value.bool false)), (13, v683), (11, (Value.bool false)), (12, v680), (11, (Value.bool false)), (11, v15), (10, v15), (9, v12), (8, v9)]) h k)))
  (fun c18 => cPick (Value.tuple c18) (Go.Value.bool true) undef fun v781 =>
  gd v781
  (gd undef
  (cFieldAddr 1 (σ 2) fun v788 =>
  cLoad1 (.slc) v788 h fun v791 =>
  cLenS v791 fun v794 =>
  cBin EK .gtr 3 v794 (Go.Value.int Go.IntKind.i64 0) fun v797 =>
  cPick (Value.bool true) (Go.Value.bool true) undef fun v800 =>
  g132_C2 call lf (updL σ [(26, v800), (25, undef), (16, (Value.bool true)), (24, v797), (20, (Value.bool true)), (23, v794), (20, (Value.bool true)), (22, v791), (20, (Value.bool true)), (21, v788), (20, (Value.bool true)), (20, undef), (16, (Value.bool true)), (19, undef), (16, (Value.bool true)), (18, undef), (16, (Value.bool true)), (17, undef), (16, (Value.bool true)), (16, v781), (15, v781), (14, undef), (11, (Value.tuple c18)), (13, undef), (11, (Value.tuple c18)), (12, undef), (11, (Value.tuple c18)), (11, v15), (10, v15), (9, v12), (8, v9)]) h k)
  (cPick (Value.bool true) (Go.Value.bool true) undef fun v803 =>
  g132_C2 call lf (updL σ [(26, v803), (25, undef), (16, (Value.bool true)), (24, undef), (20, (Value.bool false)), (23, undef), (20, (Value.bool false)), (22, undef), (20, (Value.bool false)), (21, undef), (20, (Value.bool false)), (20, undef), (16, (Value.bool true)), (19, undef), (16, (Value.bool true)), (18, undef), (16, (Value.bool true)), (17, undef), (16, (Value.bool true)), (16, v781), (15, v781), (14, undef), (11, (Value.tuple c18)), (13, undef), (11, (Value.tuple c18)), (12, undef), (11, (Value.tuple c18)), (11, v15), (10, v15), (9, v12), (8, v9)]) h k)
  (fun c785 => cPick (Value.bool true) (Go.Value.bool true) undef fun v806 =>
  g132_C2 call lf (updL σ [(26, v806), (25, undef), (16, (Value.bool true)), (24, undef), (20, (Value.tuple c785)), (23, undef), (20, (Value.tuple c785)), (22, undef), (20, (Value.tuple c785)), (21, undef), (20, (Value.tuple c785)), (20, undef), (16, (Value.bool true)), (19, undef), (16, (Value.bool true)), (18, undef), (16, (Value.bool true)), (17, undef), (16, (Value.bool true)), (16, v781), (15, v781), (14, undef), (11, (Value.tuple c18)), (13, undef), (11, (Value.tuple c18)), (12, undef), (11, (Value.tuple c18)), (11, v15), (10, v15), (9, v12), (8, v9)]) h k))
  (cFieldAddr 0 (σ 2) fun v809 =>
  cLoad1 (.int .i64) v809 h fun v812 =>
  cBin EK .neq 3 v812 (Go.Value.int Go.IntKind.i64 1) fun v815 =>
  gd v815
  (cFieldAddr 1 (σ 2) fun v821 =>
  cLoad1 (.slc) v821 h fun v824 =>
  cLenS v824 fun v827 =>
  cBin EK .gtr 3 v827 (Go.Value.int Go.IntKind.i64 0) fun v830 =>
  cPick (Value.bool true) v830 (Go.Value.bool false) fun v833 =>
  cPick (Value.bool false) (Go.Value.bool true) v833 fun v836 =>
  g132_C2 call lf (updL σ [(26, v836), (25, v833), (16, (Value.bool false)), (24, v830), (20, (Value.bool true)), (23, v827), (20, (Value.bool true)), (22, v824), (20, (Value.bool true)), (21, v821), (20, (Value.bool true)), (20, v815), (16, (Value.bool false)), (19, v815), (16, (Value.bool false)), (18, v812), (16, (Value.bool false)), (17, v809), (16, (Value.bool false)), (16, v781), (15, v781), (14, undef), (11, (Value.tuple c18)), (13, undef), (11, (Value.tuple c18)), (12, undef), (11, (Value.tuple c18)), (11, v15), (10, v15), (9, v12), (8, v9)]) h k)
  (cPick (Value.bool false) undef (Go.Value.bool false) fun v839 =>
  cPick (Value.bool false) (Go.Value.bool true) v839 fun v842 =>
  g132_C2 call lf (updL σ [(26, v842), (25, v839), (16, (Value.bool false)), (24, undef), (20, (Value.bool false)), (23, undef), (20, (Value.bool false)), (22, undef), (20, (Value.bool false)), (21, undef), (20, (Value.bool false)), (20, v815), (16, (Value.bool false)), (19, v815), (16, (Value.bool false)), (18, v812), (16, (Value.bool false)), (17, v809), (16, (Value.bool false)), (16, v781), (15, v781), (14, undef), (11, (Value.tuple c18)), (13, undef), (11, (Value.tuple c18)), (12, undef), (11, (Value.tuple c18)), (11, v15), (10, v15), (9, v12), (8, v9)]) h k)
  (fun c818 => cPick (Value.tuple c818) undef (Go.Value.bool false) fun v845 =>
  cPick (Value.bool false) (Go.Value.bool true) v845 fun v848 =>
  g132_C2 call lf (updL σ [(26, v848), (25, v845), (16, (Value.bool false)), (24, undef), (20, (Value.tuple c818)), (23, undef), (20, (Value.tuple c818)), (22, undef), (20, (Value.tuple c818)), (21, undef), (20, (Value.tuple c818)), (20, v815), (16, (Value.bool false)), (19, v815), (16, (Value.bool false)), (18, v812), (16, (Value.bool false)), (17, v809), (16, (Value.bool false)), (16, v781), (15, v781), (14, undef), (11, (Value.tuple c18)), (13, undef), (11, (Value.tuple c18)), (12, undef), (11, (Value.tuple c18)), (11, v15), (10, v15), (9, v12), (8, v9)]) h k))
  (fun c784 => gd undef
  (cFieldAddr 1 (σ 2) fun v852 =>
  cLoad1 (.slc) v852 h fun v855 =>
  cLenS v855 fun v858 =>
  cBin EK .gtr 3 v858 (Go.Value.int Go.IntKind.i64 0) fun v861 =>
  cPick (Value.tuple c784) (Go.Value.bool true) undef fun v864 =>
  g132_C2 call lf (updL σ [(26, v864), (25, undef), (16, (Value.tuple c784)), (24, v861), (20, (Value.bool true)), (23, v858), (20, (Value.bool true)), (22, v855), (20, (Value.bool true)), (21, v852), (20, (Value.bool true)), (20, undef), (16, (Value.tuple c784)), (19, undef), (16, (Value.tuple c784)), (18, undef), (16, (Value.tuple c784)), (17, undef), (16, (Value.tuple c784)), (16, v781), (15, v781), (14, undef), (11, (Value.tuple c18)), (13, undef), (11, (Value.tuple c18)), (12, undef), (11, (Value.tuple c18)), (11, v15), (10, v15), (9, v12), (8, v9)]) h k)
  (cPick (Value.tuple c784) (Go.Value.bool true) undef fun v867 =>
  g132_C2 call lf (updL σ [(26, v867), (25, undef), (16, (Value.tuple c784)), (24, undef), (20, (Value.bool false)), (23, undef), (20, (Value.bool false)), (22, undef), (20, (Value.bool false)), (21, undef), (20, (Value.bool false)), (20, undef), (16, (Value.tuple c784)), (19, undef), (16, (Value.tuple c784)), (18, undef), (16, (Value.tuple c784)), (17, undef), (16, (Value.tuple c784)), (16, v781), (15, v781), (14, undef), (11, (Value.tuple c18)), (13, undef), (11, (Value.tuple c18)), (12, undef), (11, (Value.tuple c18)), (11, v15), (10, v15), (9, v12), (8, v9)]) h k)
  (fun c849 => cPick (Value.tuple c784) (Go.Value.bool true) undef fun v870 =>
  g132_C2 call lf (updL σ [(26, v870), (25, undef), (16, (Value.tuple c784)), (24, undef), (20, (Value.tuple c849)), (23, undef), (20, (Value.tuple c849)), (22, undef), (20, (Value.tuple c849)), (21, undef), (20, (Value.tuple c849)), (20, undef), (16, (Value.tuple c784)), (19, undef), (16, (Value.tuple c784)), (18, undef), (16, (Value.tuple c784)), (17, undef), (16, (Value.tuple c784)), (16, v781), (15, v781), (14, undef), (11, (Value.tuple c18)), (13, undef), (11, (Value.tuple c18)), (12, undef), (11, (Value.tuple c18)), (11, v15), (10, v15), (9, v12), (8, v9)]) h k)))
theorem g132_C1_eq (call : Call) (lf : Nat) (σ : St) (h : AHeap) (k : KS) : evCodeS EK call (drOf EK 132) lf (cAt [1] (bodyOf Try.f132)) σ h k = g132_C1 call lf σ h k :=
  seq_eq (a := cAt [1, 0] (bodyOf Try.f132)) (b := cAt [1, 1] (bodyOf Try.f132)) (by kernel_rfl) (fun σ h => g132_C4_eq call lf σ h k) (seq_eq (a := cAt [1, 0, 0] (bodyOf Try.f132)) (b := cAt [1, 0, 1] (bodyOf Try.f132)) (by kernel_rfl) (fun σ h => g132_C2_eq call lf σ h k) (by kernel_rfl))
noncomputable def g132 (call : Call) (lf : Nat) (σ : St) (h : AHeap) (k : KS) : Option Ans :=
  cNew (σ 0).cells.toList 64 h fun v3 h4 =>
  g132_C1 call lf (updL σ [(4, (Go.Value.int Go.IntKind.i64 0)), (2, v3)]) h4 k
theorem g132_eq_ (call : Call) (lf : Nat) (σ : St) (h : AHeap) (k : KS) : evCodeS EK call (drOf EK 132) lf (cAt [] (bodyOf Try.f132)) σ h k = g132 call lf σ h k :=
  seq_eq (a := cAt [0] (bodyOf Try.f132)) (b := cAt [1] (bodyOf Try.f132)) (by kernel_rfl) (fun σ h => g132_C1_eq call lf σ h k) (by kernel_rfl)
theorem g132_eq (call : Call) (lf : Nat) (args : List Value) (h : AHeap) : evB EK call lf 132 args h = g132 call lf (st0 args) h (finS EK [.tmp 4]) := evB_eq (g := Try.f132) (c := cAt [] (bodyOf Try.f132)) (by kernel_rfl) (by kernel_rfl) (by
  have e : Try.f132.results.toList = [.tmp 4] := by kernel_rfl
  rw [e]
  exact g132_eq_ call lf _ h _)
theorem c132 (call : Call) (args : List Value) (h : AHeap) (K kp : K2) : evCall EK call 132 args h K kp = cCall call 132 args [(false, [.int .i64])] h K kp := by kernel_rfl
end Go.Amb
