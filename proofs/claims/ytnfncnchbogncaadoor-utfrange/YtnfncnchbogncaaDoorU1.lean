/- Part of the proof by the abstract machine: no claim of its own. -/
import Derived.Test.YtnfncnchbogncaaDoorProg
import Derived.Test.YtnfncnchbogncaaDoorA3
set_option linter.unusedSimpArgs false
set_option linter.unusedVariables false
set_option linter.unnecessarySimpa false
set_option linter.unusedSectionVars false
set_option maxRecDepth 100000
namespace Go.Amb
open Go.Proofs
noncomputable def udesc (t : Nat) : TypeDesc := match Tryd.prog.underlying t with
  | some d => d
  | none => .bool
noncomputable def ti1 : TI := ⟨(.func #[] #[] false), false, [.any], 8, .nilFunc, false⟩
noncomputable def ti2 : TI := ⟨(.int .i64), false, [.int .i64], 8, (.int .i64 (0)), false⟩
noncomputable def ti3 : TI := ⟨(.int .i64), false, [.int .i64], 8, (.int .i64 (0)), false⟩
noncomputable def ti4 : TI := ⟨.bool, false, [.bool], 1, (.bool false), false⟩
noncomputable def ti5 : TI := ⟨(.int .u8), false, [.int .u8], 1, (.int .u8 (0)), false⟩
noncomputable def ti6 : TI := ⟨(.int .u8), false, [.int .u8], 1, (.int .u8 (0)), false⟩
noncomputable def ti7 : TI := ⟨udesc 7, true, [.int .i64, .int .i64, .bool, .int .u8], 24, (.agg #[(.int .i64 (0)), (.int .i64 (0)), (.bool false), (.int .u8 (0))]), true⟩
noncomputable def ti8 : TI := ⟨udesc 8, true, [.int .i64, .int .i64, .bool, .int .u8], 24, (.agg #[(.int .i64 (0)), (.int .i64 (0)), (.bool false), (.int .u8 (0))]), true⟩
noncomputable def ti9 : TI := ⟨.string, false, [.str], 16, (.string ⟨#[]⟩), false⟩
noncomputable def ti10 : TI := ⟨.string, false, [.str], 16, (.string ⟨#[]⟩), false⟩
noncomputable def ti11 : TI := ⟨.string, false, [.str], 16, (.string ⟨#[]⟩), false⟩
noncomputable def ti12 : TI := ⟨(.int .u64), false, [.int .u64], 8, (.int .u64 (0)), false⟩
noncomputable def ti13 : TI := ⟨udesc 13, true, [.str, .int .u64], 24, (.agg #[(.string ⟨#[]⟩), (.int .u64 (0))]), false⟩
noncomputable def ti14 : TI := ⟨udesc 14, true, [.str, .int .u64], 24, (.agg #[(.string ⟨#[]⟩), (.int .u64 (0))]), false⟩
noncomputable def ti15 : TI := ⟨(.pointer 58), false, [.ptr], 8, (.pointer none), false⟩
noncomputable def ti16 : TI := ⟨(.pointer 61), false, [.ptr], 8, (.pointer none), false⟩
noncomputable def ti17 : TI := ⟨(.pointer 70), false, [.ptr], 8, (.pointer none), false⟩
noncomputable def ti18 : TI := ⟨udesc 18, true, [.ptr], 8, (.agg #[(.pointer none)]), false⟩
noncomputable def ti19 : TI := ⟨udesc 19, true, [.ptr], 8, (.agg #[(.pointer none)]), false⟩
noncomputable def ti20 : TI := ⟨(.interface #[]), false, [.any], 16, .nilIface, false⟩
noncomputable def ti21 : TI := ⟨(.int .i32), false, [.int .i32], 4, (.int .i32 (0)), false⟩
noncomputable def ti22 : TI := ⟨(.func #[] #[4] false), false, [.any], 8, .nilFunc, false⟩
noncomputable def ti23 : TI := ⟨(.func #[40] #[] false), false, [.any], 8, .nilFunc, false⟩
noncomputable def ti24 : TI := ⟨(.func #[40] #[] false), false, [.any], 8, .nilFunc, false⟩
noncomputable def ti25 : TI := ⟨(.func #[9] #[24] false), false, [.any], 8, .nilFunc, false⟩
noncomputable def ti26 : TI := ⟨(.slice 29), false, [.slc], 24, (.slice none 0 0), false⟩
noncomputable def ti27 : TI := ⟨(.func #[9] #[26] false), false, [.any], 8, .nilFunc, false⟩
noncomputable def ti28 : TI := ⟨udesc 28, true, [.int .i64, .int .i64, .int .i32, .bool], 24, (.agg #[(.int .i64 (0)), (.int .i64 (0)), (.int .i32 (0)), (.bool false)]), true⟩
noncomputable def ti29 : TI := ⟨udesc 29, true, [.int .i64, .int .i64, .int .i32, .bool], 24, (.agg #[(.int .i64 (0)), (.int .i64 (0)), (.int .i32 (0)), (.bool false)]), true⟩
noncomputable def ti30 : TI := ⟨(.func #[9, 3] #[4] false), false, [.any], 8, .nilFunc, false⟩
noncomputable def ti32 : TI := ⟨(.func #[9] #[21, 3] false), false, [.any], 8, .nilFunc, false⟩
noncomputable def ti33 : TI := ⟨(.pointer 42), false, [.ptr], 8, (.pointer none), false⟩
noncomputable def ti34 : TI := ⟨(.func #[] #[33] false), false, [.any], 8, .nilFunc, false⟩
noncomputable def ti35 : TI := ⟨(.func #[9] #[3] false), false, [.any], 8, .nilFunc, false⟩
noncomputable def ti36 : TI := ⟨(.func #[21] #[9] false), false, [.any], 8, .nilFunc, false⟩
noncomputable def ti37 : TI := ⟨(.func #[38] #[26] false), false, [.any], 8, .nilFunc, false⟩
noncomputable def ti38 : TI := ⟨(.slice 5), false, [.slc], 24, (.slice none 0 0), false⟩
noncomputable def ti39 : TI := ⟨(.func #[] #[3] false), false, [.any], 8, .nilFunc, false⟩
noncomputable def ti40 : TI := ⟨(.func #[3, 21] #[4] false), false, [.any], 8, .nilFunc, false⟩
noncomputable def ti41 : TI := ⟨udesc 41, true, [.slc, .int .i64], 32, (.agg #[(.slice none 0 0), (.int .i64 (0))]), false⟩
noncomputable def ti42 : TI := ⟨udesc 42, true, [.slc, .int .i64], 32, (.agg #[(.slice none 0 0), (.int .i64 (0))]), false⟩
noncomputable def ti43 : TI := ⟨(.func #[21] #[4] false), false, [.any], 8, .nilFunc, false⟩
noncomputable def ti44 : TI := ⟨(.func #[4] #[26] false), false, [.any], 8, .nilFunc, false⟩
noncomputable def ti46 : TI := ⟨(.func #[5] #[3, 21] false), false, [.any], 8, .nilFunc, false⟩
noncomputable def ti47 : TI := ⟨(.int .u64), false, [.int .u64], 8, (.int .u64 (0)), false⟩
noncomputable def ti48 : TI := ⟨(.func #[21] #[3] false), false, [.any], 8, .nilFunc, false⟩
noncomputable def ti49 : TI := ⟨(.func #[5] #[4] false), false, [.any], 8, .nilFunc, false⟩
noncomputable def ti50 : TI := ⟨(.func #[38] #[4] false), false, [.any], 8, .nilFunc, false⟩
noncomputable def ti51 : TI := ⟨(.func #[38] #[21, 3] false), false, [.any], 8, .nilFunc, false⟩
noncomputable def ti52 : TI := ⟨(.array 256 5), true, [.int .u8, .int .u8, .int .u8, .int .u8, .int .u8, .int .u8, .int .u8, .int .u8, .int .u8, .int .u8, .int .u8, .int .u8, .int .u8, .int .u8, .int .u8, .int .u8, .int .u8, .int .u8, .int .u8, .int .u8, .int .u8, .int .u8, .int .u8, .int .u8, .int .u8, .int .u8, .int .u8, .int .u8, .int .u8, .int .u8, .int .u8, .int .u8, .int .u8, .int .u8, .int .u8, .int .u8, .int .u8, .int .u8, .int .u8, .int .u8, .int .u8, .int .u8, .int .u8, .int .u8, .int .u8, .int .u8, .int .u8, .int .u8, .int .u8, .int .u8, .int .u8, .int .u8, .int .u8, .int .u8, .int .u8, .int .u8, .int .u8, .int .u8, .int .u8, .int .u8, .int .u8, .int .u8, .int .u8, .int .u8, .int .u8, .int .u8, .int .u8, .int .u8, .int .u8, .int .u8, .int .u8, .int .u8, .int .u8, .int .u8, .int .u8, .int .u8, .int .u8, .int .u8, .int .u8, .int .u8, .int .u8, .int .u8, .int .u8, .int .u8, .int .u8, .int .u8, .int .u8, .int .u8, .int .u8, .int .u8, .int .u8, .int .u8, .int .u8, .int .u8, .int .u8, .int .u8, .int .u8, .int .u8, .int .u8, .int .u8, .int .u8, .int .u8, .int .u8, .int .u8, .int .u8, .int .u8, .int .u8, .int .u8, .int .u8, .int .u8, .int .u8, .int .u8, .int .u8, .int .u8, .int .u8, .int .u8, .int .u8, .int .u8, .int .u8, .int .u8, .int .u8, .int .u8, .int .u8, .int .u8, .int .u8, .int .u8, .int .u8, .int .u8, .int .u8, .int .u8, .int .u8, .int .u8, .int .u8, .int .u8, .int .u8, .int .u8, .int .u8, .int .u8, .int .u8, .int .u8, .int .u8, .int .u8, .int .u8, .int .u8, .int .u8, .int .u8, .int .u8, .int .u8, .int .u8, .int .u8, .int .u8, .int .u8, .int .u8, .int .u8, .int .u8, .int .u8, .int .u8, .int .u8, .int .u8, .int .u8, .int .u8, .int .u8, .int .u8, .int .u8, .int .u8, .int .u8, .int .u8, .int .u8, .int .u8, .int .u8, .int .u8, .int .u8, .int .u8, .int .u8, .int .u8, .int .u8, .int .u8, .int .u8, .int .u8, .int .u8, .int .u8, .int .u8, .int .u8, .int .u8, .int .u8, .int .u8, .int .u8, .int .u8, .int .u8, .int .u8, .int .u8, .int .u8, .int .u8, .int .u8, .int .u8, .int .u8, .int .u8, .int .u8, .int .u8, .int .u8, .int .u8, .int .u8, .int .u8, .int .u8, .int .u8, .int .u8, .int .u8, .int .u8, .int .u8, .int .u8, .int .u8, .int .u8, .int .u8, .int .u8, .int .u8, .int .u8, .int .u8, .int .u8, .int .u8, .int .u8, .int .u8, .int .u8, .int .u8, .int .u8, .int .u8, .int .u8, .int .u8, .int .u8, .int .u8, .int .u8, .int .u8, .int .u8, .int .u8, .int .u8, .int .u8, .int .u8, .int .u8, .int .u8, .int .u8, .int .u8, .int .u8, .int .u8, .int .u8, .int .u8, .int .u8, .int .u8, .int .u8, .int .u8, .int .u8, .int .u8, .int .u8, .int .u8, .int .u8, .int .u8, .int .u8, .int .u8], 256, (.agg #[(.int .u8 (0)), (.int .u8 (0)), (.int .u8 (0)), (.int .u8 (0)), (.int .u8 (0)), (.int .u8 (0)), (.int .u8 (0)), (.int .u8 (0)), (.int .u8 (0)), (.int .u8 (0)), (.int .u8 (0)), (.int .u8 (0)), (.int .u8 (0)), (.int .u8 (0)), (.int .u8 (0)), (.int .u8 (0)), (.int .u8 (0)), (.int .u8 (0)), (.int .u8 (0)), (.int .u8 (0)), (.int .u8 (0)), (.int .u8 (0)), (.int .u8 (0)), (.int .u8 (0)), (.int .u8 (0)), (.int .u8 (0)), (.int .u8 (0)), (.int .u8 (0)), (.int .u8 (0)), (.int .u8 (0)), (.int .u8 (0)), (.int .u8 (0)), (.int .u8 (0)), (.int .u8 (0)), (.int .u8 (0)), (.int .u8 (0)), (.int .u8 (0)), (.int .u8 (0)), (.int .u8 (0)), (.int .u8 (0)), (.int .u8 (0)), (.int .u8 (0)), (.int .u8 (0)), (.int .u8 (0)), (.int .u8 (0)), (.int .u8 (0)), (.int .u8 (0)), (.int .u8 (0)), (.int .u8 (0)), (.int .u8 (0)), (.int .u8 (0)), (.int .u8 (0)), (.int .u8 (0)), (.int .u8 (0)), (.int .u8 (0)), (.int .u8 (0)), (.int .u8 (0)), (.int .u8 (0)), (.int .u8 (0)), (.int .u8 (0)), (.int .u8 (0)), (.int .u8 (0)), (.int .u8 (0)), (.int .u8 (0)), (.int .u8 (0)), (.int .u8 (0)), (.int .u8 (0)), (.int .u8 (0)), (.int .u8 (0)), (.int .u8 (0)), (.int .u8 (0)), (.int .u8 (0)), (.int .u8 (0)), (.int .u8 (0)), (.int .u8 (0)), (.int .u8 (0)), (.int .u8 (0)), (.int .u8 (0)), (.int .u8 (0)), (.int .u8 (0)), (.int .u8 (0)), (.int .u8 (0)), (.int .u8 (0)), (.int .u8 (0)), (.int .u8 (0)), (.int .u8 (0)), (.int .u8 (0)), (.int .u8 (0)), (.int .u8 (0)), (.int .u8 (0)), (.int .u8 (0)), (.int .u8 (0)), (.int .u8 (0)), (.int .u8 (0)), (.int .u8 (0)), (.int .u8 (0)), (.int .u8 (0)), (.int .u8 (0)), (.int .u8 (0)), (.int .u8 (0)), (.int .u8 (0)), (.int .u8 (0)), (.int .u8 (0)), (.int .u8 (0)), (.int .u8 (0)), (.int .u8 (0)), (.int .u8 (0)), (.int .u8 (0)), (.int .u8 (0)), (.int .u8 (0)), (.int .u8 (0)), (.int .u8 (0)), (.int .u8 (0)), (.int .u8 (0)), (.int .u8 (0)), (.int .u8 (0)), (.int .u8 (0)), (.int .u8 (0)), (.int .u8 (0)), (.int .u8 (0)), (.int .u8 (0)), (.int .u8 (0)), (.int .u8 (0)), (.int .u8 (0)), (.int .u8 (0)), (.int .u8 (0)), (.int .u8 (0)), (.int .u8 (0)), (.int .u8 (0)), (.int .u8 (0)), (.int .u8 (0)), (.int .u8 (0)), (.int .u8 (0)), (.int .u8 (0)), (.int .u8 (0)), (.int .u8 (0)), (.int .u8 (0)), (.int .u8 (0)), (.int .u8 (0)), (.int .u8 (0)), (.int .u8 (0)), (.int .u8 (0)), (.int .u8 (0)), (.int .u8 (0)), (.int .u8 (0)), (.int .u8 (0)), (.int .u8 (0)), (.int .u8 (0)), (.int .u8 (0)), (.int .u8 (0)), (.int .u8 (0)), (.int .u8 (0)), (.int .u8 (0)), (.int .u8 (0)), (.int .u8 (0)), (.int .u8 (0)), (.int .u8 (0)), (.int .u8 (0)), (.int .u8 (0)), (.int .u8 (0)), (.int .u8 (0)), (.int .u8 (0)), (.int .u8 (0)), (.int .u8 (0)), (.int .u8 (0)), (.int .u8 (0)), (.int .u8 (0)), (.int .u8 (0)), (.int .u8 (0)), (.int .u8 (0)), (.int .u8 (0)), (.int .u8 (0)), (.int .u8 (0)), (.int .u8 (0)), (.int .u8 (0)), (.int .u8 (0)), (.int .u8 (0)), (.int .u8 (0)), (.int .u8 (0)), (.int .u8 (0)), (.int .u8 (0)), (.int .u8 (0)), (.int .u8 (0)), (.int .u8 (0)), (.int .u8 (0)), (.int .u8 (0)), (.int .u8 (0)), (.int .u8 (0)), (.int .u8 (0)), (.int .u8 (0)), (.int .u8 (0)), (.int .u8 (0)), (.int .u8 (0)), (.int .u8 (0)), (.int .u8 (0)), (.int .u8 (0)), (.int .u8 (0)), (.int .u8 (0)), (.int .u8 (0)), (.int .u8 (0)), (.int .u8 (0)), (.int .u8 (0)), (.int .u8 (0)), (.int .u8 (0)), (.int .u8 (0)), (.int .u8 (0)), (.int .u8 (0)), (.int .u8 (0)), (.int .u8 (0)), (.int .u8 (0)), (.int .u8 (0)), (.int .u8 (0)), (.int .u8 (0)), (.int .u8 (0)), (.int .u8 (0)), (.int .u8 (0)), (.int .u8 (0)), (.int .u8 (0)), (.int .u8 (0)), (.int .u8 (0)), (.int .u8 (0)), (.int .u8 (0)), (.int .u8 (0)), (.int .u8 (0)), (.int .u8 (0)), (.int .u8 (0)), (.int .u8 (0)), (.int .u8 (0)), (.int .u8 (0)), (.int .u8 (0)), (.int .u8 (0)), (.int .u8 (0)), (.int .u8 (0)), (.int .u8 (0)), (.int .u8 (0)), (.int .u8 (0)), (.int .u8 (0)), (.int .u8 (0)), (.int .u8 (0)), (.int .u8 (0)), (.int .u8 (0)), (.int .u8 (0)), (.int .u8 (0)), (.int .u8 (0)), (.int .u8 (0)), (.int .u8 (0)), (.int .u8 (0)), (.int .u8 (0)), (.int .u8 (0)), (.int .u8 (0)), (.int .u8 (0)), (.int .u8 (0)), (.int .u8 (0)), (.int .u8 (0)), (.int .u8 (0)), (.int .u8 (0))]), false⟩
noncomputable def ti53 : TI := ⟨udesc 53, true, [.int .u8, .int .u8], 2, (.agg #[(.int .u8 (0)), (.int .u8 (0))]), true⟩
noncomputable def ti54 : TI := ⟨udesc 54, true, [.int .u8, .int .u8], 2, (.agg #[(.int .u8 (0)), (.int .u8 (0))]), true⟩
noncomputable def ti55 : TI := ⟨(.array 16 54), true, [.int .u8, .int .u8, .int .u8, .int .u8, .int .u8, .int .u8, .int .u8, .int .u8, .int .u8, .int .u8, .int .u8, .int .u8, .int .u8, .int .u8, .int .u8, .int .u8, .int .u8, .int .u8, .int .u8, .int .u8, .int .u8, .int .u8, .int .u8, .int .u8, .int .u8, .int .u8, .int .u8, .int .u8, .int .u8, .int .u8, .int .u8, .int .u8], 32, (.agg #[(.int .u8 (0)), (.int .u8 (0)), (.int .u8 (0)), (.int .u8 (0)), (.int .u8 (0)), (.int .u8 (0)), (.int .u8 (0)), (.int .u8 (0)), (.int .u8 (0)), (.int .u8 (0)), (.int .u8 (0)), (.int .u8 (0)), (.int .u8 (0)), (.int .u8 (0)), (.int .u8 (0)), (.int .u8 (0)), (.int .u8 (0)), (.int .u8 (0)), (.int .u8 (0)), (.int .u8 (0)), (.int .u8 (0)), (.int .u8 (0)), (.int .u8 (0)), (.int .u8 (0)), (.int .u8 (0)), (.int .u8 (0)), (.int .u8 (0)), (.int .u8 (0)), (.int .u8 (0)), (.int .u8 (0)), (.int .u8 (0)), (.int .u8 (0))]), false⟩
noncomputable def ti56 : TI := ⟨(.func #[] #[9] false), false, [.any], 8, .nilFunc, false⟩
noncomputable def ti57 : TI := ⟨udesc 57, true, [.ptr, .ptr, .ptr, .str], 40, (.agg #[(.pointer none), (.pointer none), (.pointer none), (.string ⟨#[]⟩)]), false⟩
noncomputable def ti58 : TI := ⟨udesc 58, true, [.ptr, .ptr, .ptr, .str], 40, (.agg #[(.pointer none), (.pointer none), (.pointer none), (.string ⟨#[]⟩)]), false⟩
noncomputable def ti59 : TI := ⟨(.array 0 16), true, [], 0, (.agg #[]), false⟩
noncomputable def ti60 : TI := ⟨udesc 60, true, [], 0, (.agg #[]), false⟩
noncomputable def ti61 : TI := ⟨udesc 61, true, [], 0, (.agg #[]), false⟩
noncomputable def ti62 : TI := ⟨(.int .u32), false, [.int .u32], 4, (.int .u32 (0)), false⟩
noncomputable def ti63 : TI := ⟨(.int .u8), false, [.int .u8], 1, (.int .u8 (0)), false⟩
noncomputable def ti64 : TI := ⟨(.int .u8), false, [.int .u8], 1, (.int .u8 (0)), false⟩
noncomputable def ti65 : TI := ⟨(.func #[71, 71] #[4] false), false, [.any], 8, .nilFunc, false⟩
noncomputable def ti66 : TI := ⟨(.pointer 5), false, [.ptr], 8, (.pointer none), false⟩
noncomputable def ti67 : TI := ⟨(.int .i32), false, [.int .i32], 4, (.int .i32 (0)), false⟩
noncomputable def ti68 : TI := ⟨(.int .i32), false, [.int .i32], 4, (.int .i32 (0)), false⟩
noncomputable def ti69 : TI := ⟨udesc 69, true, [.int .u64, .int .u64, .int .u32, .int .u8, .int .u8, .int .u8, .int .u8, .any, .ptr, .int .i32, .int .i32], 48, (.agg #[(.int .u64 (0)), (.int .u64 (0)), (.int .u32 (0)), (.int .u8 (0)), (.int .u8 (0)), (.int .u8 (0)), (.int .u8 (0)), .nilFunc, (.pointer none), (.int .i32 (0)), (.int .i32 (0))]), false⟩
noncomputable def ti70 : TI := ⟨udesc 70, true, [.int .u64, .int .u64, .int .u32, .int .u8, .int .u8, .int .u8, .int .u8, .any, .ptr, .int .i32, .int .i32], 48, (.agg #[(.int .u64 (0)), (.int .u64 (0)), (.int .u32 (0)), (.int .u8 (0)), (.int .u8 (0)), (.int .u8 (0)), (.int .u8 (0)), .nilFunc, (.pointer none), (.int .i32 (0)), (.int .i32 (0))]), false⟩
noncomputable def ti71 : TI := ⟨.unsafePointer, false, [.ptr], 8, (.pointer none), false⟩
noncomputable def tiList : List (Nat × TI) := [(1, ti1), (2, ti2), (3, ti3), (4, ti4), (5, ti5), (6, ti6), (7, ti7), (8, ti8), (9, ti9), (10, ti10), (11, ti11), (12, ti12), (13, ti13), (14, ti14), (15, ti15), (16, ti16), (17, ti17), (18, ti18), (19, ti19), (20, ti20), (21, ti21), (22, ti22), (23, ti23), (24, ti24), (25, ti25), (26, ti26), (27, ti27), (28, ti28), (29, ti29), (30, ti30), (32, ti32), (33, ti33), (34, ti34), (35, ti35), (36, ti36), (37, ti37), (38, ti38), (39, ti39), (40, ti40), (41, ti41), (42, ti42), (43, ti43), (44, ti44), (46, ti46), (47, ti47), (48, ti48), (49, ti49), (50, ti50), (51, ti51), (52, ti52), (53, ti53), (54, ti54), (55, ti55), (56, ti56), (57, ti57), (58, ti58), (59, ti59), (60, ti60), (61, ti61), (62, ti62), (63, ti63), (64, ti64), (65, ti65), (66, ti66), (67, ti67), (68, ti68), (69, ti69), (70, ti70), (71, ti71)]
noncomputable def fnList : List (Nat × Func) := [(2, Tryd.f2), (3, Tryd.f3), (4, Tryd.f4), (5, Tryd.f5), (6, Tryd.f6), (7, Tryd.f7), (8, Tryd.f8), (9, Tryd.f9), (10, Tryd.f10), (11, Tryd.f11), (12, Tryd.f12), (13, Tryd.f13), (14, Tryd.f14), (15, Tryd.f15), (16, Tryd.f16), (17, Tryd.f17), (18, Tryd.f18), (19, Tryd.f19), (20, Tryd.f20), (21, Tryd.f21), (22, Tryd.f22), (23, Tryd.f23), (24, Tryd.f24), (25, Tryd.f25), (26, Tryd.f26), (27, Tryd.f27), (28, Tryd.f28), (29, Tryd.f29), (50, Tryd.f50)]
noncomputable def dr21 : List (Nat × List Nat × List Nat) := [(2, [0, 1, 3, 7, 0, 16, 48, 112, 240, 511, 1023], [0, 1, 2, 3, 4, 5, 6, 7, 8, 9, 10])]
noncomputable def dr26 : List (Nat × List Nat × List Nat) := [(8, [0, 1, 3, 7, 15, 31, 7, 71, 255, 511, 1023, 2047, 1023, 5119, 13311, 32767, 65535, 131071], [0, 1, 2, 3, 4, 5, 6, 7, 8, 9, 10, 11, 12, 13, 14, 15, 16, 17])]
noncomputable def drList : List (Nat × PT (List Nat × List Nat)) := [(21, PT.ofList dr21), (26, PT.ofList dr26)]
noncomputable def U0 (ext : List (Nat × Unit)) : Env := { ti := PT.ofList tiList, fn := PT.ofList fnList, ext := PT.ofList ext, dr := PT.ofList drList }
noncomputable def noX : Call := fun _ _ _ => none
end Go.Amb
