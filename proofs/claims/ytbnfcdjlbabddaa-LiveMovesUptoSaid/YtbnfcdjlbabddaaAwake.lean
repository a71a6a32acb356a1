/- The examples of the chapters: the evaluator's answers, computed. -/
import Derived.Test.YtbnfcdjlbabddaaCode
import Derived.KernelRfl
set_option maxRecDepth 100000
namespace Go.Proofs.Ytbnfcdjlbabddaa
open Go.Ev
theorem awake45_ev : callW T (evC T 300) 12 [] AH.zero = some (.bool true, AH.zero) := by kernel_rfl
theorem awake45_ce : CE T 12 [] AH.zero (.bool true) AH.zero := ⟨300, awake45_ev⟩
theorem awake46_ev : callW T (evC T 300) 23 [] AH.zero = some (.bool true, AH.zero) := by kernel_rfl
theorem awake46_ce : CE T 23 [] AH.zero (.bool true) AH.zero := ⟨300, awake46_ev⟩
end Go.Proofs.Ytbnfcdjlbabddaa
