/- Part of the proof by the abstract machine: no claim of its own. -/
import Derived.Test.YtnfncnchbogncaaE3
import Derived.Test.YtnfncnchbogncaaA23
set_option linter.unusedSimpArgs false
set_option linter.unusedVariables false
set_option linter.unnecessarySimpa false
set_option linter.unusedSectionVars false
/- The machine's tables, with what is told of some functions elsewhere: the closed laws' 'live', Parse, Join. -/
set_option maxRecDepth 100000
namespace Go.Amb
noncomputable def EK : Env := E0 [(8, ()), (33, ()), (41, ()), (78, ()), (146, ())]
end Go.Amb
