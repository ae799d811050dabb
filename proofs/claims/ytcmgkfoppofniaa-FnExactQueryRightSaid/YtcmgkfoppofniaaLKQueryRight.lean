/- Functions of the program, each with what it returns, run by the evaluator; the conditions stand in the theorems. -/
import Derived.Test.YtcmgkfoppofniaaLQry6
namespace Go.Proofs.Ytcmgkfoppofniaa
open Go Go.Proofs.YtcmgkfoppofniaaW Go.Proofs
set_option linter.unusedVariables false
set_option linter.unusedSimpArgs false
set_option maxRecDepth 100000
set_option maxHeartbeats 8000000
theorem lawQueryRight_ok (q : Qry) (q_b : Qry.Bd maxLen q) (q_r : Qry.Rg q) : CallOK Try.prog 13 [.agg [.y (.sl 2 (q.items.map Itm.row)), .y (yS q.table), .y (yS q.join), .y (yS q.lft), .y (yS q.rgt), .y (.sl 5 (q.where_.map Trm.row)), .y (yS q.group), .y (yS q.order), .y (yB q.down), .y (yN q.limit)]] (B true) := by
  obtain ⟨M, hM⟩ := mapEx
  try simp only [hM]
  refine go Try.func13 rfl rfl rfl rfl fun pAdd pSub pMul pQuo pRem pAnd pOr pXor pAndNot pShl pShr pNeg pCompl pConv pLt pLe pEq pSlt pSle pSeq pCat pCatOk pSlen pSsub pSat pIadd pIsub pBnot pBeq pImin pImax pLlen pLsub pLapp pLset pLcopy pLenOk pBytes pRep hF Ca hC r hr => ?_
  cbv
  refine callN hC (by have hh := szQuery_ok q 1048576 (by decide) (by decide) q_b; (try simp only [hM] at hh); exact hh) (fun q1 hq1 => ?_)
  cbv
  refine brkI (fun h => ?_) (fun h => ?_) <;> try cbv
  · exact hr.symm
  have n1 : ¬ q1 < 0 := by have := ltF hF h; omega
  have m1 := Qry.sz_ok q 1048576 (by decide) (by decide) (hq1 ▸ n1)
  rw [← hq1] at m1
  refine callI hC (by have hh := toQuery_ok q m1.1; (try simp only [hM] at hh); exact hh) ?_
  cbv
  refine callB hC (by have hh := sQueryRight_ok q m1.1; (try simp only [hM] at hh); exact hh) (fun h1 => ?_) (fun h1 => ?_) <;> try cbv
  all_goals
    refine callI hC (by have hh := toQuery_ok q m1.1; (try simp only [hM] at hh); exact hh) ?_
    cbv
    refine callB hC (by have hh := iQueryRight_ok q m1.1; (try simp only [hM] at hh); exact hh) (fun h2 => ?_) (fun h2 => ?_) <;> try cbv
    all_goals first
      | (exact absurd (h1.symm.trans h2) (by decide))
      | skip
    refine callI hC (by have hh := toQuery_ok q m1.1; (try simp only [hM] at hh); exact hh) ?_
    cbv
    refine callB hC (by have hh := eqQuery_ok q q_b; (try simp only [hM] at hh); exact hh) (fun hh => ?_) (fun hh => by cases hh)
    try cbv
    exact hr.symm
end Go.Proofs.Ytcmgkfoppofniaa
