/- The example of the chapter: the evaluator's answer, computed. -/
import Derived.Test.YtpdgjdnipkmocaaCode
import Derived.KernelRfl
set_option maxRecDepth 100000
namespace Go.Proofs.Ytpdgjdnipkmocaa
open Go.Ev
theorem awake_ev : callW T (evC T 100) 11 [] AH.zero = some (.bool true, AH.zero) := by kernel_rfl
theorem awake_ce : CE T 11 [] AH.zero (.bool true) AH.zero := ⟨100, awake_ev⟩
end Go.Proofs.Ytpdgjdnipkmocaa
