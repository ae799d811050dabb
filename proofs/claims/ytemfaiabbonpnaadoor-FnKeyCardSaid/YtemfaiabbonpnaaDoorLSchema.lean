/- Functions of the program, each with what it returns, run by the evaluator; the conditions stand in the theorems. -/
import Derived.Test.YtemfaiabbonpnaaDoorLName
namespace Go.Proofs.YtemfaiabbonpnaaDoor
open Go Go.Proofs.YtemfaiabbonpnaaDoorW Go.Proofs
set_option linter.unusedVariables false
set_option linter.unusedSimpArgs false
set_option maxRecDepth 100000
set_option maxHeartbeats 8000000
def colOk (l : List Int) (many : Int) (i : Nat) : Bool := decide (0 ≤ l.getD i 0) && decide (l.getD i 0 < many) && allTo (fun k => decide (¬ l.getD k 0 = l.getD i 0)) i
def colsRight (l : List Int) (many : Int) : Bool := decide (1 ≤ l.length) && allTo (colOk l many) l.length
theorem colsRight_none {l : List Int} {many : Int} (h : l.length < 1) : colsRight l many = false := by rw [colsRight, decide_eq_false (by omega)]; rfl
theorem colsRight_bad {l : List Int} {many : Int} {i : Nat} (h : i < l.length) (hp : colOk l many i = false) : colsRight l many = false := by rw [colsRight, allTo_false h hp, Bool.and_false]
theorem colsRight_all {l : List Int} {many : Int} (h : allTo (colOk l many) l.length = true) : colsRight l many = decide (1 ≤ l.length) := by rw [colsRight, h, Bool.and_true]
def hasI (l : List Int) (x : Int) : Bool := l.contains x
theorem allTo_contains (l : List Int) (x : Int) : ∀ i, i ≤ l.length → allTo (fun k => decide (¬ l.getD k 0 = x)) i = !hasI (l.take i) x
  | 0, _ => by simp [allTo, hasI]
  | i + 1, h => by
    rw [allTo, allTo_contains l x i (by omega), hasI, hasI, List.take_succ_eq_append_getElem (by omega), List.contains_append, getD_at (by omega)]
    by_cases e : l[i] = x
    · simp [e]
    · have e' : ¬ x = l[i] := fun h => e h.symm
      simp [e, e']
def colOf (l : List Col) (name : ByteArray) : Int := firstTo (fun i => decide ((l.getD i default).name = name)) l.length
def colAt (l : List Col) (i : Nat) : Bool := nameRight (l.getD i default).name && (decide (1 ≤ (l.getD i default).kind) && decide ((l.getD i default).kind ≤ 3)) && allTo (fun k => decide (¬ (l.getD k default).name = (l.getD i default).name)) i
def schHead (s : Sch) : Bool := nameRight s.name && decide (1 ≤ s.cols.length) && decide (s.cols.length ≤ 10) && colsRight s.key (Int.ofNat s.cols.length) && decide (s.idx.length ≤ 4)
def keyAt (s : Sch) (i : Nat) : Bool := !(s.cols.getD (s.key.getD i 0).toNat default).nul
def idxAt (s : Sch) (i : Nat) : Bool := colsRight (s.idx.getD i default).cols (Int.ofNat s.cols.length)
def schRight (s : Sch) : Bool := schHead s && allTo (colAt s.cols) s.cols.length && allTo (keyAt s) s.key.length && allTo (idxAt s) s.idx.length
theorem schRight_head {s : Sch} (h : schHead s = false) : schRight s = false := by rw [schRight, h]; rfl
theorem schRight_col {s : Sch} {i : Nat} (h : i < s.cols.length) (hp : colAt s.cols i = false) : schRight s = false := by rw [schRight, allTo_false h hp, Bool.and_false]; rfl
theorem schRight_key {s : Sch} {i : Nat} (h : i < s.key.length) (hp : keyAt s i = false) : schRight s = false := by rw [schRight, allTo_false h hp, Bool.and_false]; rfl
theorem schRight_idx {s : Sch} {i : Nat} (h : i < s.idx.length) (hp : idxAt s i = false) : schRight s = false := by rw [schRight, allTo_false h hp, Bool.and_false]
theorem colsRight_get {l : List Int} {many : Int} (h : colsRight l many = true) {i : Nat} (hi : i < l.length) : 0 ≤ l[i] ∧ l[i] < many := by
  rw [colsRight, Bool.and_eq_true] at h
  have := allTo_iff.1 h.2 i hi
  rw [colOk, getD_at hi, Bool.and_eq_true, Bool.and_eq_true] at this
  exact ⟨of_decide_eq_true this.1.1, of_decide_eq_true this.1.2⟩
end Go.Proofs.YtemfaiabbonpnaaDoor
