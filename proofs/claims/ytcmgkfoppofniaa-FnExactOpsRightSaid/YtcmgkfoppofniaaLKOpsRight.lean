/- Functions of the program, each with what it returns, run by the evaluator; the conditions stand in the theorems. -/
import Derived.Test.YtcmgkfoppofniaaLOps
namespace Go.Proofs.Ytcmgkfoppofniaa
open Go Go.Proofs.YtcmgkfoppofniaaW Go.Proofs
set_option linter.unusedVariables false
set_option linter.unusedSimpArgs false
set_option maxRecDepth 100000
set_option maxHeartbeats 8000000
theorem lawOpsRight_ok (l : List Opn) (l_b : l.length ≤ maxLen) (l_c : ∀ v ∈ l, Opn.Bd maxLen v) (l_r : ∀ v ∈ l, Opn.Rg v) : CallOK Try.prog 12 [.c (.y (.sl 7 (l.map Opn.row)))] (B true) := by
  obtain ⟨M, hM⟩ := mapEx
  try simp only [hM]
  refine go Try.func12 rfl rfl rfl rfl fun pAdd pSub pMul pQuo pRem pAnd pOr pXor pAndNot pShl pShr pNeg pCompl pConv pLt pLe pEq pSlt pSle pSeq pCat pCatOk pSlen pSsub pSat pIadd pIsub pBnot pBeq pImin pImax pLlen pLsub pLapp pLset pLcopy pLenOk pBytes pRep hF Ca hC r hr => ?_
  cbv
  refine callN hC (by have hh := szOpS_ok l 1048576 (by decide) (by decide) l_b l_c; (try simp only [hM] at hh); exact hh) (fun q1 hq1 => ?_)
  cbv
  refine brkI (fun h => ?_) (fun h => ?_) <;> try cbv
  · exact hr.symm
  have n1 : ¬ q1 < 0 := by have := ltF hF h; omega
  have m1 := (szL_ok Opn.sz_ok) l 1048576 (by decide) (by decide) (hq1 ▸ n1)
  rw [← hq1] at m1
  refine callI hC (by have hh := toOpS_ok l m1.1.1 m1.1.2; (try simp only [hM] at hh); exact hh) ?_
  cbv
  refine callB hC (by have hh := sOpsRight_ok l l_b l_c; (try simp only [hM] at hh); exact hh) (fun h1 => ?_) (fun h1 => ?_) <;> try cbv
  all_goals
    refine callI hC (by have hh := toOpS_ok l m1.1.1 m1.1.2; (try simp only [hM] at hh); exact hh) ?_
    cbv
    refine callB hC (by have hh := iOpsRight_ok l l_b l_c m1.1.2; (try simp only [hM] at hh); exact hh) (fun h2 => ?_) (fun h2 => ?_) <;> try cbv
    all_goals first
      | (exact absurd (h1.symm.trans h2) (by decide))
      | skip
    refine callI hC (by have hh := toOpS_ok l m1.1.1 m1.1.2; (try simp only [hM] at hh); exact hh) ?_
    cbv
    refine callB hC (by have hh := eqOpS_ok l l_b l_c; (try simp only [hM] at hh); exact hh) (fun hh => ?_) (fun hh => by cases hh)
    try cbv
    exact hr.symm
end Go.Proofs.Ytcmgkfoppofniaa
