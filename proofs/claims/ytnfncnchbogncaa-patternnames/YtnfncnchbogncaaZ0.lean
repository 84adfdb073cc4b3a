/- PatternNames, evaluated by the kernel. -/
import Derived.Test.YtnfncnchbogncaaJ7
import Derived.Test.YtnfncnchbogncaaE3
import Derived.KernelRfl
set_option maxRecDepth 100000
namespace Go.Amb
theorem live05 : isTrue (evF EE (XP 1000) 1000 6 [] h0) = true := by kernel_rfl
end Go.Amb
