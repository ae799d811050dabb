/- Functions of the program, each with what it returns, run by the evaluator; the conditions stand in the theorems. -/
import Derived.Test.YtemfaiabbonpnaaDoorLTy
namespace Go.Proofs.YtemfaiabbonpnaaDoor
open Go Go.Proofs.YtemfaiabbonpnaaDoorW Go.Proofs
set_option linter.unusedVariables false
set_option linter.unusedSimpArgs false
set_option maxRecDepth 100000
set_option maxHeartbeats 8000000
def nameAt (s : ByteArray) (i : Nat) : Bool := (decide (97 ≤ prims.sat s i) && decide (prims.sat s i ≤ 122)) || (decide (0 < i) && ((decide (48 ≤ prims.sat s i) && decide (prims.sat s i ≤ 57)) || decide (prims.sat s i = 95)))
def nameRight (s : ByteArray) : Bool := decide (1 ≤ s.size) && decide (s.size ≤ 20) && allTo (nameAt s) s.size
theorem nameRight_ends {s : ByteArray} (h : allTo (nameAt s) s.size = true) : nameRight s = (decide (1 ≤ s.size) && decide (s.size ≤ 20)) := by rw [nameRight, h, Bool.and_true]
theorem nameRight_bad {s : ByteArray} {i : Nat} (h : i < s.size) (hp : nameAt s i = false) : nameRight s = false := by rw [nameRight, allTo_false h hp, Bool.and_false]
theorem nameRight_long {s : ByteArray} (h : s.size < 1 ∨ 20 < s.size) : nameRight s = false := by
  rw [nameRight]
  have : (decide (1 ≤ s.size) && decide (s.size ≤ 20)) = false := by rw [Bool.and_eq_false_iff, decide_eq_false_iff_not, decide_eq_false_iff_not]; omega
  rw [this, Bool.false_and]
end Go.Proofs.YtemfaiabbonpnaaDoor
