/- Functions of the program, each with what it returns, run by the evaluator; the conditions stand in the theorems. -/
import Derived.Test.YtemfaiabbonpnaaGreatDoorLSch2
import Derived.Test.YtemfaiabbonpnaaGreatDoorLVal
namespace Go.Proofs.YtemfaiabbonpnaaGreatDoor
open Go Go.Proofs.YtemfaiabbonpnaaGreatDoorW Go.Proofs
set_option linter.unusedVariables false
set_option linter.unusedSimpArgs false
set_option maxRecDepth 100000
set_option maxHeartbeats 8000000
def rowRight (s : Sch) (row : List Val) : Bool := schRight s && rowOk s row
theorem schRight_cols {s : Sch} (h : schRight s = true) : 1 ≤ s.cols.length ∧ s.cols.length ≤ 10 := by
  simp only [schRight, schHead, Bool.and_eq_true, decide_eq_true_eq] at h
  omega
theorem rowOk_eq {s : Sch} {row : List Val} (h : rowOk s row = true) : row.length = s.cols.length := by
  simp only [rowOk, Bool.and_eq_true, decide_eq_true_eq] at h
  exact h.1
theorem rowRight_long {s : Sch} {row : List Val} (h : 400 < row.length) : rowRight s row = false := by
  rw [rowRight]
  cases h1 : schRight s with
  | false => rfl
  | true =>
    cases h2 : rowOk s row with
    | false => rfl
    | true => have := schRight_cols h1; have := rowOk_eq h2; omega
end Go.Proofs.YtemfaiabbonpnaaGreatDoor
