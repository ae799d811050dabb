/- Functions of the program, each with what it returns, run by the evaluator; the conditions stand in the theorems. -/
import Derived.Test.YtocjbababdlilaaLDisk
namespace Go.Proofs.Ytocjbababdlilaa
open Go Go.Proofs.YtocjbababdlilaaW Go.Proofs
set_option linter.unusedVariables false
set_option linter.unusedSimpArgs false
set_option maxRecDepth 100000
set_option maxHeartbeats 8000000
theorem lawDiskRight_ok (d : Dsk) (d_b : Dsk.Bd maxLen d) (d_r : Dsk.Rg d) : CallOK Try.prog 3 [.agg [.y (.sl 1 (d.secs.map rowS)), .y (.sl 2 (d.cache.map Wr.row))]] (B true) := by
  obtain ⟨M, hM⟩ := mapEx
  try simp only [hM]
  refine go Try.func3 rfl rfl rfl rfl fun pAdd pSub pMul pQuo pRem pAnd pOr pXor pAndNot pShl pShr pNeg pCompl pConv pLt pLe pEq pSlt pSle pSeq pCat pCatOk pSlen pSsub pSat pIadd pIsub pBnot pBeq pImin pImax pLlen pLsub pLapp pLset pLcopy pLenOk pBytes pRep hF Ca hC r hr => ?_
  cbv
  refine callN hC (by have hh := szDisk_ok d 1048576 (by decide) (by decide) d_b; (try simp only [hM] at hh); exact hh) (fun q1 hq1 => ?_)
  cbv
  refine brkI (fun h => ?_) (fun h => ?_) <;> try cbv
  · exact hr.symm
  have n1 : ¬ q1 < 0 := by have := ltF hF h; omega
  have m1 := Dsk.sz_ok d 1048576 (by decide) (by decide) (hq1 ▸ n1)
  rw [← hq1] at m1
  refine callI hC (by have hh := toDisk_ok d m1.1; (try simp only [hM] at hh); exact hh) ?_
  cbv
  refine callB hC (by have hh := sDiskRight_ok d d_b; (try simp only [hM] at hh); exact hh) (fun h1 => ?_) (fun h1 => ?_) <;> try cbv
  all_goals
    refine callI hC (by have hh := toDisk_ok d m1.1; (try simp only [hM] at hh); exact hh) ?_
    cbv
    refine callB hC (by have hh := iDiskRight_ok d d_b; (try simp only [hM] at hh); exact hh) (fun h2 => ?_) (fun h2 => ?_) <;> try cbv
    all_goals first
      | (exact absurd (h1.symm.trans h2) (by decide))
      | skip
    refine callI hC (by have hh := toDisk_ok d m1.1; (try simp only [hM] at hh); exact hh) ?_
    cbv
    refine callB hC (by have hh := eqDisk_ok d d_b; (try simp only [hM] at hh); exact hh) (fun hh => ?_) (fun hh => by cases hh)
    try cbv
    exact hr.symm
end Go.Proofs.Ytocjbababdlilaa
