/- Functions of the program, each with what it returns, run by the evaluator; the conditions stand in the theorems. -/
import Derived.Test.YtnieabocheadpaaLTab4
namespace Go.Proofs.Ytnieabocheadpaa
open Go Go.Proofs.YtnieabocheadpaaW Go.Proofs
set_option linter.unusedVariables false
set_option linter.unusedSimpArgs false
set_option maxRecDepth 100000
set_option maxHeartbeats 8000000
theorem lawTableRight_ok (t : Tbl) (t_b : Tbl.Bd maxLen t) (t_r : Tbl.Rg t) : CallOK Try.prog 4 [.agg [.y (yS t.sch.name), .y (.sl 3 (t.sch.cols.map Col.row)), .y (.sl 1 (t.sch.key.map rowI)), .y (.sl 2 (t.sch.idx.map Idx.row)), .y (.sl 1 (t.rows.map rowVs))]] (B true) := by
  obtain ⟨M, hM⟩ := mapEx
  try simp only [hM]
  refine go Try.func4 rfl rfl rfl rfl fun pAdd pSub pMul pQuo pRem pAnd pOr pXor pAndNot pShl pShr pNeg pCompl pConv pLt pLe pEq pSlt pSle pSeq pCat pCatOk pSlen pSsub pSat pIadd pIsub pBnot pBeq pImin pImax pLlen pLsub pLapp pLset pLcopy pLenOk pBytes pRep hF Ca hC r hr => ?_
  cbv
  refine callN hC (by have hh := szTable_ok t 1048576 (by decide) (by decide) t_b; (try simp only [hM] at hh); exact hh) (fun q1 hq1 => ?_)
  cbv
  refine brkI (fun h => ?_) (fun h => ?_) <;> try cbv
  · exact hr.symm
  have n1 : ¬ q1 < 0 := by have := ltF hF h; omega
  have m1 := Tbl.sz_ok t 1048576 (by decide) (by decide) (hq1 ▸ n1)
  rw [← hq1] at m1
  refine callI hC (by have hh := toTable_ok t m1.1; (try simp only [hM] at hh); exact hh) ?_
  cbv
  refine callB hC (by have hh := sTableRight_ok t m1.1; (try simp only [hM] at hh); exact hh) (fun h1 => ?_) (fun h1 => ?_) <;> try cbv
  all_goals
    refine callI hC (by have hh := toTable_ok t m1.1; (try simp only [hM] at hh); exact hh) ?_
    cbv
    refine callB hC (by have hh := iTableRight_ok t m1.1; (try simp only [hM] at hh); exact hh) (fun h2 => ?_) (fun h2 => ?_) <;> try cbv
    all_goals first
      | (exact absurd (h1.symm.trans h2) (by decide))
      | skip
    refine callI hC (by have hh := toTable_ok t m1.1; (try simp only [hM] at hh); exact hh) ?_
    cbv
    refine callB hC (by have hh := eqTable_ok t t_b; (try simp only [hM] at hh); exact hh) (fun hh => ?_) (fun hh => by cases hh)
    try cbv
    exact hr.symm
end Go.Proofs.Ytnieabocheadpaa
