/- What Parse answers at one text, as the abstract machine evaluates it. -/
import Derived.Test.YtkaabknkabdfpaaGreatDoorTab
set_option maxRecDepth 1000000
namespace Go.Proofs.YtkaabknkabdfpaaGreatDoor
open Go.Ev
def text2 : ByteArray := ⟨#[100, 97, 116, 97, 32, 76, 105, 115, 116, 32, 61, 32, 78, 105, 108, 32, 124, 32, 67, 111, 110, 115, 32, 73, 110, 116, 32, 76, 105, 115, 116, 10, 112, 114, 111, 99, 32, 109, 46, 105, 100, 32, 76, 105, 115, 116, 32, 45, 62, 32, 76, 105, 115, 116, 10, 32, 32, 115, 105, 103, 32, 48, 44, 48, 32, 98, 97, 115, 101, 32, 48, 32, 114, 101, 115, 117, 108, 116, 32, 48, 44, 48, 32, 114, 101, 115, 116, 32, 48, 10, 32, 32, 98, 108, 111, 99, 107, 32, 48, 10, 32, 32, 32, 32, 114, 48, 32, 76, 105, 115, 116, 32, 48, 44, 48, 10]⟩
def back2 : PV := .tup [.agg [.sl 0 [], .sl 0 []], .int .i64 0, .int .i64 22]
theorem parse2 : evD Tryz.prog puT owT T0 3000 14 [.str text2] = some back2 := by kernel_rfl
end Go.Proofs.YtkaabknkabdfpaaGreatDoor
