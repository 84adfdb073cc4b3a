/- Part of the proof by the abstract machine: no claim of its own. -/
import Derived.Test.YtnfncnchbogncaaZ3
import Derived.Test.YtnfncnchbogncaaL5
set_option linter.unusedSimpArgs false
set_option linter.unusedVariables false
set_option linter.unnecessarySimpa false
set_option linter.unusedSectionVars false
/- 'Rows.NfaOfSaid', whole. -/
namespace Go.Proofs.Ytnfncnchbogncaa.nfaOf
/-- ████ THE STATEMENT ████ -/
theorem proved : Rows.NfaOfSaid :=
  over Amb.live33
#print axioms proved
end Go.Proofs.Ytnfncnchbogncaa.nfaOf
