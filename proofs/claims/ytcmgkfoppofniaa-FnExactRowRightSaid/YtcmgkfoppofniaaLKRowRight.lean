/- Functions of the program, each with what it returns, run by the evaluator; the conditions stand in the theorems. -/
import Derived.Test.YtcmgkfoppofniaaLRow
namespace Go.Proofs.Ytcmgkfoppofniaa
open Go Go.Proofs.YtcmgkfoppofniaaW Go.Proofs
set_option linter.unusedVariables false
set_option linter.unusedSimpArgs false
set_option maxRecDepth 100000
set_option maxHeartbeats 8000000
theorem lawRowRight_ok (s : Sch) (s_b : Sch.Bd maxLen s) (s_r : Sch.Rg s) (row : List Val) (row_b : row.length ≤ maxLen) (row_c : ∀ v ∈ row, Val.Bd maxLen v) (row_r : ∀ v ∈ row, Val.Rg v) : CallOK Try.prog 10 [.agg [.y (yS s.name), .y (.sl 3 (s.cols.map Col.row)), .y (.sl 1 (s.key.map rowI)), .y (.sl 2 (s.idx.map Idx.row))], .c (.y (.sl 3 (row.map Val.row)))] (B true) := by
  obtain ⟨M, hM⟩ := mapEx
  try simp only [hM]
  refine go Try.func10 rfl rfl rfl rfl fun pAdd pSub pMul pQuo pRem pAnd pOr pXor pAndNot pShl pShr pNeg pCompl pConv pLt pLe pEq pSlt pSle pSeq pCat pCatOk pSlen pSsub pSat pIadd pIsub pBnot pBeq pImin pImax pLlen pLsub pLapp pLset pLcopy pLenOk pBytes pRep hF Ca hC r hr => ?_
  cbv
  refine callN hC (by have hh := szSchema_ok s 1048576 (by decide) (by decide) s_b; (try simp only [hM] at hh); exact hh) (fun q1 hq1 => ?_)
  cbv
  refine brkI (fun h => ?_) (fun h => ?_) <;> try cbv
  · exact hr.symm
  have n1 : ¬ q1 < 0 := by have := ltF hF h; omega
  have m1 := Sch.sz_ok s 1048576 (by decide) (by decide) (hq1 ▸ n1)
  rw [← hq1] at m1
  refine callN hC (by have hh := szValueS_ok row q1 (by omega) (by omega) row_b row_c; (try simp only [hM] at hh); exact hh) (fun q2 hq2 => ?_)
  cbv
  refine brkI (fun h => ?_) (fun h => ?_) <;> try cbv
  · exact hr.symm
  have n2 : ¬ q2 < 0 := by have := ltF hF h; omega
  have m2 := (szL_ok Val.sz_ok) row q1 (by omega) (by omega) (hq2 ▸ n2)
  rw [← hq2] at m2
  refine callI hC (by have hh := toSchema_ok s m1.1; (try simp only [hM] at hh); exact hh) ?_
  cbv
  refine callI hC (by have hh := toValueS_ok row m2.1.1 m2.1.2; (try simp only [hM] at hh); exact hh) ?_
  cbv
  refine callB hC (by have hh := sRowRight_ok s row s_b row_b; (try simp only [hM] at hh); exact hh) (fun h1 => ?_) (fun h1 => ?_) <;> try cbv
  all_goals
    refine callI hC (by have hh := toSchema_ok s m1.1; (try simp only [hM] at hh); exact hh) ?_
    cbv
    refine callI hC (by have hh := toValueS_ok row m2.1.1 m2.1.2; (try simp only [hM] at hh); exact hh) ?_
    cbv
    refine callB hC (by have hh := iRowRight_ok s row s_b row_b; (try simp only [hM] at hh); exact hh) (fun h2 => ?_) (fun h2 => ?_) <;> try cbv
    all_goals first
      | (exact absurd (h1.symm.trans h2) (by decide))
      | skip
    refine callI hC (by have hh := toSchema_ok s m1.1; (try simp only [hM] at hh); exact hh) ?_
    cbv
    refine callB hC (by have hh := eqSchema_ok s s_b; (try simp only [hM] at hh); exact hh) (fun hh => ?_) (fun hh => by cases hh)
    try cbv
    refine callI hC (by have hh := toValueS_ok row m2.1.1 m2.1.2; (try simp only [hM] at hh); exact hh) ?_
    cbv
    refine callB hC (by have hh := eqValueS_ok row row_b; (try simp only [hM] at hh); exact hh) (fun hh => ?_) (fun hh => by cases hh)
    try cbv
    exact hr.symm
end Go.Proofs.Ytcmgkfoppofniaa
