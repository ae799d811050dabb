/- Functions of the program, each with what it returns, run by the evaluator; the conditions stand in the theorems. -/
import Derived.Test.YtemfaiabbonpnaaGreatDoorLNums
import Derived.Test.YtemfaiabbonpnaaGreatDoorLSch2
import Derived.Test.YtemfaiabbonpnaaGreatDoorLBldS
namespace Go.Proofs.YtemfaiabbonpnaaGreatDoor
open Go Go.Proofs.YtemfaiabbonpnaaGreatDoorW Go.Proofs
set_option linter.unusedVariables false
set_option linter.unusedSimpArgs false
set_option maxRecDepth 100000
set_option maxHeartbeats 1600000
/-! The bytes of a schema. -/
def colB (c : Col) : ByteArray := putText c.name ++ putNum c.kind ++ bitB c.nul
def colsTo (s : Sch) : Nat → ByteArray
  | 0 => putText s.name ++ putNum (Int.ofNat s.cols.length)
  | i + 1 => colsTo s i ++ colB (s.cols.getD i default)
def idxB (x : Idx) : ByteArray := numsB x.cols ++ bitB x.uniq
def idxTo (s : Sch) : Nat → ByteArray
  | 0 => colsTo s s.cols.length ++ (numsB s.key ++ putNum (Int.ofNat s.idx.length))
  | i + 1 => idxTo s i ++ idxB (s.idx.getD i default)
def schBytes (s : Sch) : ByteArray := if schRight s then idxTo s s.idx.length else ⟨⟨[]⟩⟩
theorem putText_size (s : ByteArray) : (putText s).size ≤ 20010 := by
  rw [putText]
  split
  · show 0 ≤ 20010; decide
  · rename_i h
    have h' : s.size ≤ 20000 := by
      have := (Bool.not_eq_true _).mp h
      exact Nat.not_lt.1 (of_decide_eq_false this)
    rw [ByteArray.size_append]
    have := putNum_size (Int.ofNat s.size) (i64nat (by omega))
    have e : putNum (Int.ofNat s.size) = putNum (s.size : Int) := rfl
    rw [e] at this
    omega
theorem colB_size {c : Col} (h : I64 c.kind) : (colB c).size ≤ 20030 := by
  have h1 := putText_size c.name
  have h2 := putNum_size _ h
  have h3 := bitB_size c.nul
  rw [colB, ByteArray.size_append, ByteArray.size_append]; omega
theorem numsB_size {l : List Int} (hl : l.length ≤ 1048576) (hi : ∀ v ∈ l, I64 v) : (numsB l).size ≤ 11000000 := by
  have := numsTo_size hl hi l.length (Nat.le_refl _)
  rw [numsB]; omega
theorem idxB_size {x : Idx} (hl : x.cols.length ≤ 1048576) (hi : ∀ v ∈ x.cols, I64 v) : (idxB x).size ≤ 11000010 := by
  have h1 := numsB_size hl hi
  have h2 := bitB_size x.uniq
  rw [idxB, ByteArray.size_append]; omega
theorem colsTo_size {s : Sch} (hl : s.cols.length ≤ 1048576) (hr : Sch.Rg s) : ∀ i, i ≤ s.cols.length → (colsTo s i).size ≤ 20030 * (i + 1)
  | 0, _ => by
    have h1 := putText_size s.name
    have h2 := putNum_size (Int.ofNat s.cols.length) (i64nat (by omega))
    rw [colsTo, ByteArray.size_append]; omega
  | i + 1, h => by
    have h1 := colsTo_size hl hr i (by omega)
    have h2 := colB_size (c := s.cols.getD i default) (by rw [getD_at (show i < s.cols.length by omega)]; exact (hr.1 _ (List.getElem_mem _)).1)
    rw [colsTo, ByteArray.size_append]; omega
theorem idxTo_size {s : Sch} (hb : Sch.Bd 1048576 s) (hr : Sch.Rg s) (hc : s.cols.length ≤ 10) : ∀ i, i ≤ s.idx.length → (idxTo s i).size ≤ 11300000 * (i + 1)
  | 0, _ => by
    have h1 := colsTo_size (by omega) hr s.cols.length (Nat.le_refl _)
    have h2 := numsB_size hb.2.2.1 hr.2.1
    have h3 := putNum_size (Int.ofNat s.idx.length) (i64nat (by have := hb.2.2.2.1.1; omega))
    rw [idxTo, ByteArray.size_append, ByteArray.size_append]; omega
  | i + 1, h => by
    have h1 := idxTo_size hb hr hc i (by omega)
    have hm := List.getElem_mem (show i < s.idx.length by omega)
    have h2 := idxB_size (x := s.idx.getD i default) (by rw [getD_at (show i < s.idx.length by omega)]; exact (hb.2.2.2.1.2 _ hm).1) (by rw [getD_at (show i < s.idx.length by omega)]; exact (hr.2.2.1 _ hm).1)
    rw [idxTo, ByteArray.size_append]; omega
theorem schRight_small {s : Sch} (h : schRight s = true) : s.cols.length ≤ 10 ∧ s.idx.length ≤ 4 := by
  have h1 : schHead s = true := by
    cases e : schHead s with
    | true => rfl
    | false => rw [schRight_head e] at h; cases h
  rw [schHead] at h1
  simp only [Bool.and_eq_true, decide_eq_true_eq] at h1
  exact ⟨h1.1.1.2, h1.2⟩
end Go.Proofs.YtemfaiabbonpnaaGreatDoor
