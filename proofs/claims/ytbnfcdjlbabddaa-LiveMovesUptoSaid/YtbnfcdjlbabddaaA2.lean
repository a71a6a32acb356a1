/- What a node uses and binds, and where it leads: the program's and the reference's. -/
import Derived.Test.YtbnfcdjlbabddaaA1
import Derived.KernelRfl
set_option linter.unusedVariables false
set_option linter.unusedSimpArgs false
set_option maxRecDepth 100000
namespace Go.Proofs.Ytbnfcdjlbabddaa
open Go.Ev

def fArgs (op : Int) : Int := if op = 0 ∨ op = 4 ∨ op = 5 ∨ op = 9 then 1 else if op = 2 then 2 else if op = 3 ∨ op = 6 ∨ op = 7 ∨ op = 8 then -1 else 0
def isBind (op : Int) : Bool := decide (op = 1 ∨ op = 2 ∨ op = 3 ∨ op = 4 ∨ op = 6)
def isNext (op : Int) : Bool := decide (1 ≤ op ∧ op ≤ 6)
def formC (op : Int) : List PV := [.int .i64 (fArgs op), .bool (isBind op), .bool (decide (op = 3 ∨ op = 8)), .bool (decide (op = 1 ∨ op = 2 ∨ op = 8)), .bool (decide (op = 6 ∨ op = 7 ∨ op = 8)), .bool (decide (op = 8)), .bool (decide (op = 9)), .bool (isNext op), .bool (decide (op = 9))]
def formT : List PV := (formC 0 ++ (formC 1 ++ (formC 2 ++ (formC 3 ++ (formC 4 ++ (formC 5 ++ (formC 6 ++ (formC 7 ++ (formC 8 ++ formC 9)))))))))

theorem forms_ev : callW T (evC T 30) 54 [] AH.zero = some (.agg formT, AH.zero) := by kernel_rfl
theorem forms_p : Pure T 54 [] (.agg formT) false := Pure_of_CE ⟨30, forms_ev⟩ rfl rfl rfl

theorem of_p (op : Int) : Pure T 34 [.int .i64 op] (.tup [.agg (formC op), .bool (decide (0 ≤ op ∧ op < 10))]) true := by
  refine ⟨c34, rfl, rfl, ?_⟩
  simp [c34]
  by_cases h : op = 0 ∨ op = 1 ∨ op = 2 ∨ op = 3 ∨ op = 4 ∨ op = 5 ∨ op = 6 ∨ op = 7 ∨ op = 8 ∨ op = 9
  · have hf := fun {h d r κ s Q} => pureK_eq (o := false) (h := h) (d := d) (r := r) (κ := κ) (s := s) (Q := Q) forms_p (.inr rfl)
    rcases h with rfl | rfl | rfl | rfl | rfl | rfl | rfl | rfl | rfl | rfl <;> simp [hf, evIxv, partP, formT, formC]
  · (repeat' ((first | refine gdS_split (fun hc => ?_) (fun hc => ?_) | refine condS_split (fun hc => ?_) (fun hc => ?_)) <;> (try simp at hc) <;> (try simp [hc])))
    all_goals first
      | omega
      | (simp [formC, fArgs, isBind, isNext]; omega)
end Go.Proofs.Ytbnfcdjlbabddaa
