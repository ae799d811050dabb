/- Functions of the program, each with what it returns, run by the evaluator; the conditions stand in the theorems. -/
import Derived.Test.YtngnflfjacappaaLMark
namespace Go.Proofs.Ytngnflfjacappaa
open Go Go.Proofs.YtngnflfjacappaaW Go.Proofs
set_option linter.unusedVariables false
set_option linter.unusedSimpArgs false
set_option maxRecDepth 100000
set_option maxHeartbeats 8000000
theorem mkStringS_len (k n : Nat) : (mkStringS k n).length = n := by rw [mkStringS, List.length_map, List.length_range]
theorem mkWriteS_len (k n : Nat) : (mkWriteS k n).length = n := by rw [mkWriteS, List.length_map, List.length_range]
/-- A disk marked. -/
def mkDisk (k : Nat) (d : Dsk) : Dsk := ⟨mkStringS k d.secs.length, mkWriteS (k + 1 * d.secs.length) d.cache.length⟩
def toDisk (k : Nat) (d : Dsk) : Nat := k + 1 * d.secs.length + 2 * d.cache.length
theorem flat_rows {α : Type} {row : α → List Y} (h : ∀ a, ∀ y ∈ row a, ∃ v, y = Y.sc v) (l : List α) : ∀ x ∈ l.map row, ∀ y ∈ x, ∃ v, y = Y.sc v := by
  intro x hx y hy
  obtain ⟨a, _, rfl⟩ := List.mem_map.1 hx
  exact h a y hy
theorem flatS (s : ByteArray) : ∀ y ∈ rowS s, ∃ v, y = Y.sc v := by simp [rowS]
theorem flatI (s : Int) : ∀ y ∈ rowI s, ∃ v, y = Y.sc v := by simp [rowI]
theorem flatWr (s : Wr) : ∀ y ∈ Wr.row s, ∃ v, y = Y.sc v := by simp [Wr.row]
theorem flatVal (s : Val) : ∀ y ∈ Val.row s, ∃ v, y = Y.sc v := by simp [Val.row]
theorem flatRcd (s : Rcd) : ∀ y ∈ Rcd.row s, ∃ v, y = Y.sc v := by simp [Rcd.row]
end Go.Proofs.Ytngnflfjacappaa
