/- Functions of the program, each with what it returns, run by the evaluator; the conditions stand in the theorems. -/
import Derived.Test.YtocjbababdlilaaLMark
namespace Go.Proofs.Ytocjbababdlilaa
open Go Go.Proofs.YtocjbababdlilaaW Go.Proofs
set_option linter.unusedVariables false
set_option linter.unusedSimpArgs false
set_option maxRecDepth 100000
set_option maxHeartbeats 8000000
theorem mkStringS_len (k n : Nat) : (mkStringS k n).length = n := by rw [mkStringS, List.length_map, List.length_range]
theorem mkWriteS_len (k n : Nat) : (mkWriteS k n).length = n := by rw [mkWriteS, List.length_map, List.length_range]
/-- A disk marked. -/
def mkDisk (k : Nat) (d : Dsk) : Dsk := ⟨mkStringS k d.secs.length, mkWriteS (k + 1 * d.secs.length) d.cache.length⟩
def toDisk (k : Nat) (d : Dsk) : Nat := k + 1 * d.secs.length + 2 * d.cache.length
theorem markDisk_ok (d : Dsk) (k : Nat) (h1 : d.secs.length ≤ 1048576) (h2 : d.cache.length ≤ 1048576) (hk : k ≤ 1000000000) : CallOK Try.prog 22 [.ir true [.own 1 (d.secs.map rowS), .own 2 (d.cache.map Wr.row)], aN (Int.ofNat k)] ⟨.c (.y (.sc (.int .i64 (Int.ofNat (toDisk k d))))), [[.own 1 ((mkDisk k d).secs.map rowS), .own 2 ((mkDisk k d).cache.map Wr.row)]]⟩ := by
  have c1 := markStringS_ok d.secs k (by omega) (by omega)
  have c2 := markWriteS_ok d.cache (k + 1 * d.secs.length) (by omega) (by omega)
  obtain ⟨k1, hk1⟩ : ∃ k1, k1 = k + 1 * d.secs.length := ⟨_, rfl⟩
  obtain ⟨k2, hk2⟩ : ∃ k2, k2 = toDisk k d := ⟨_, rfl⟩
  rw [← hk1] at c1 c2
  rw [show k1 + 2 * d.cache.length = k2 by rw [hk1, hk2]; rfl] at c2
  rw [← hk2, show (mkDisk k d).secs = mkStringS k d.secs.length from rfl, show (mkDisk k d).cache = mkWriteS k1 d.cache.length by rw [hk1]; rfl]
  obtain ⟨M, hM⟩ := mapEx
  try simp only [hM]
  refine go Try.func22 rfl rfl rfl rfl fun pAdd pSub pMul pQuo pRem pAnd pOr pXor pAndNot pShl pShr pNeg pCompl pConv pLt pLe pEq pSlt pSle pSeq pCat pCatOk pSlen pSsub pSat pIadd pIsub pBnot pBeq pImin pImax pLlen pLsub pLapp pLset pLcopy pLenOk pBytes pRep hF Ca hC r hr => ?_
  cbv
  refine callI hC (by have hh := c1; (try simp only [hM] at hh); exact hh) ?_
  cbv
  refine callI hC (by have hh := c2; (try simp only [hM] at hh); exact hh) ?_
  cbv
  exact hr.symm
theorem heldDisk_ok (d : Dsk) (k : Nat) (h1 : d.secs.length ≤ 1048576) (h2 : d.cache.length ≤ 1048576) (hk : k ≤ 1000000000) : CallOK Try.prog 23 [.agg [.y (.sl 1 ((mkDisk k d).secs.map rowS)), .y (.sl 2 ((mkDisk k d).cache.map Wr.row))], aN (Int.ofNat k)] (N (Int.ofNat (toDisk k d))) := by
  have c1 := heldStringS_ok k d.secs.length (by omega) (by omega)
  have c2 := heldWriteS_ok (k + 1 * d.secs.length) d.cache.length (by omega) (by omega)
  obtain ⟨k1, hk1⟩ : ∃ k1, k1 = k + 1 * d.secs.length := ⟨_, rfl⟩
  obtain ⟨k2, hk2⟩ : ∃ k2, k2 = toDisk k d := ⟨_, rfl⟩
  rw [← hk1] at c1 c2
  rw [show k1 + 2 * d.cache.length = k2 by rw [hk1, hk2]; rfl] at c2
  rw [← hk2, show (mkDisk k d).secs = mkStringS k d.secs.length from rfl, show (mkDisk k d).cache = mkWriteS k1 d.cache.length by rw [hk1]; rfl]
  obtain ⟨M, hM⟩ := mapEx
  try simp only [hM]
  refine go Try.func23 rfl rfl rfl rfl fun pAdd pSub pMul pQuo pRem pAnd pOr pXor pAndNot pShl pShr pNeg pCompl pConv pLt pLe pEq pSlt pSle pSeq pCat pCatOk pSlen pSsub pSat pIadd pIsub pBnot pBeq pImin pImax pLlen pLsub pLapp pLset pLcopy pLenOk pBytes pRep hF Ca hC r hr => ?_
  cbv
  refine callI hC (by have hh := c1; (try simp only [hM] at hh); exact hh) ?_
  cbv
  refine brkI (fun h => ?_) (fun h => ?_) <;> try cbv
  · exact absurd (ltT hF h) (by ((try simp only [Int.ofNat_eq_natCast] at *); omega))
  refine callI hC (by have hh := c2; (try simp only [hM] at hh); exact hh) ?_
  cbv
  refine brkI (fun h => ?_) (fun h => ?_) <;> try cbv
  · exact absurd (ltT hF h) (by ((try simp only [Int.ofNat_eq_natCast] at *); omega))
  exact hr.symm
theorem flat_rows {α : Type} {row : α → List Y} (h : ∀ a, ∀ y ∈ row a, ∃ v, y = Y.sc v) (l : List α) : ∀ x ∈ l.map row, ∀ y ∈ x, ∃ v, y = Y.sc v := by
  intro x hx y hy
  obtain ⟨a, _, rfl⟩ := List.mem_map.1 hx
  exact h a y hy
theorem flatS (s : ByteArray) : ∀ y ∈ rowS s, ∃ v, y = Y.sc v := by simp [rowS]
theorem flatI (s : Int) : ∀ y ∈ rowI s, ∃ v, y = Y.sc v := by simp [rowI]
theorem flatWr (s : Wr) : ∀ y ∈ Wr.row s, ∃ v, y = Y.sc v := by simp [Wr.row]
theorem flatVal (s : Val) : ∀ y ∈ Val.row s, ∃ v, y = Y.sc v := by simp [Val.row]
theorem flatRcd (s : Rcd) : ∀ y ∈ Rcd.row s, ∃ v, y = Y.sc v := by simp [Rcd.row]
end Go.Proofs.Ytocjbababdlilaa
