/- What Parse answers at one text, as the abstract machine evaluates it. -/
import Derived.Test.YtkaabknkabdfpaaGreatDoorTab
set_option maxRecDepth 1000000
namespace Go.Proofs.YtkaabknkabdfpaaGreatDoor
open Go.Ev
def text1 : ByteArray := ⟨#[100, 97, 116, 97, 32, 76, 105, 115, 116, 32, 61, 32, 78, 105, 108, 32, 124, 32, 67, 111, 110, 115, 32, 73, 110, 116, 32, 76, 105, 115, 116, 10, 112, 114, 111, 99, 32, 109, 46, 105, 100, 32, 76, 105, 115, 116, 32, 45, 62, 32, 76, 105, 115, 116, 10, 32, 32, 115, 105, 103, 32, 48, 44, 48, 32, 98, 97, 115, 101, 32, 48, 32, 114, 101, 115, 117, 108, 116, 32, 48, 44, 48, 32, 114, 101, 115, 116, 32, 48, 10, 32, 32, 98, 108, 111, 99, 107, 32, 48, 10, 32, 32, 32, 32, 114, 48, 32, 76, 105, 115, 116, 32, 48, 44, 48, 10, 32, 32, 32, 32, 114, 101, 116, 32, 114, 48, 10]⟩
def back1 : PV := .tup [(.agg [(.sl 2 [(.str ⟨#[66, 111, 111, 108]⟩), (.sl 2 [(.str ⟨#[70, 97, 108, 115, 101]⟩), (.sl 0 []), (.str ⟨#[84, 114, 117, 101]⟩), (.sl 0 [])]), (.str ⟨#[76, 105, 115, 116]⟩), (.sl 2 [(.str ⟨#[78, 105, 108]⟩), (.sl 0 []), (.str ⟨#[67, 111, 110, 115]⟩), (.sl 2 [(.int .i64 0), (.int .i64 2)])])]), (.sl 1 [(.str ⟨#[109, 46, 105, 100]⟩), (.sl 1 [(.int .i64 2), (.bool false)]), (.int .i64 2), (.sl 1 [(.sl 2 [(.str ⟨#[48]⟩), (.str ⟨#[48]⟩)])]), (.str ⟨#[48]⟩), (.sl 2 [(.str ⟨#[48]⟩), (.str ⟨#[48]⟩)]), (.str ⟨#[48]⟩), (.sl 1 [(.sl 1 [(.bool true), (.int .i64 2), (.bool false), (.sl 2 [(.str ⟨#[48]⟩), (.str ⟨#[48]⟩)])]), (.str ⟨#[48]⟩), (.sl 1 [(.int .i64 14), (.int .i64 0), (.sl 1 [(.int .i64 0)]), (.sl 0 []), (.int .i64 0), (.int .i64 0), (.int .i64 0), (.sl 0 [])])]), (.bool false)])]), .int .i64 0, .int .i64 0]
theorem parse1 : evD Tryz.prog puT owT T0 3000 14 [.str text1] = some back1 := by kernel_rfl
end Go.Proofs.YtkaabknkabdfpaaGreatDoor
