/- Functions of the program, each with what it returns, run by the evaluator; the conditions stand in the theorems. -/
import Derived.Test.YtcmgkfoppofniaaLCmp
namespace Go.Proofs.Ytcmgkfoppofniaa
open Go Go.Proofs.YtcmgkfoppofniaaW Go.Proofs
set_option linter.unusedVariables false
set_option linter.unusedSimpArgs false
set_option maxRecDepth 100000
set_option maxHeartbeats 8000000
theorem lawCompare_ok (a : List Val) (a_b : a.length ≤ maxLen) (a_c : ∀ v ∈ a, Val.Bd maxLen v) (a_r : ∀ v ∈ a, Val.Rg v) (b : List Val) (b_b : b.length ≤ maxLen) (b_c : ∀ v ∈ b, Val.Bd maxLen v) (b_r : ∀ v ∈ b, Val.Rg v) : CallOK Try.prog 5 [.c (.y (.sl 3 (a.map Val.row))), .c (.y (.sl 3 (b.map Val.row)))] (B true) := by
  obtain ⟨M, hM⟩ := mapEx
  try simp only [hM]
  refine go Try.func5 rfl rfl rfl rfl fun pAdd pSub pMul pQuo pRem pAnd pOr pXor pAndNot pShl pShr pNeg pCompl pConv pLt pLe pEq pSlt pSle pSeq pCat pCatOk pSlen pSsub pSat pIadd pIsub pBnot pBeq pImin pImax pLlen pLsub pLapp pLset pLcopy pLenOk pBytes pRep hF Ca hC r hr => ?_
  cbv
  refine callN hC (by have hh := szValueS_ok a 1048576 (by decide) (by decide) a_b a_c; (try simp only [hM] at hh); exact hh) (fun q1 hq1 => ?_)
  cbv
  refine brkI (fun h => ?_) (fun h => ?_) <;> try cbv
  · exact hr.symm
  have n1 : ¬ q1 < 0 := by have := ltF hF h; omega
  have m1 := (szL_ok Val.sz_ok) a 1048576 (by decide) (by decide) (hq1 ▸ n1)
  rw [← hq1] at m1
  refine callN hC (by have hh := szValueS_ok b q1 (by omega) (by omega) b_b b_c; (try simp only [hM] at hh); exact hh) (fun q2 hq2 => ?_)
  cbv
  refine brkI (fun h => ?_) (fun h => ?_) <;> try cbv
  · exact hr.symm
  have n2 : ¬ q2 < 0 := by have := ltF hF h; omega
  have m2 := (szL_ok Val.sz_ok) b q1 (by omega) (by omega) (hq2 ▸ n2)
  rw [← hq2] at m2
  refine callI hC (by have hh := toValueS_ok a m1.1.1 m1.1.2; (try simp only [hM] at hh); exact hh) ?_
  cbv
  refine callI hC (by have hh := toValueS_ok b m2.1.1 m2.1.2; (try simp only [hM] at hh); exact hh) ?_
  cbv
  refine callN hC (by have hh := sCompare_ok a b a_b; (try simp only [hM] at hh); exact hh) (fun w hw => ?_)
  cbv
  refine callI hC (by have hh := toValueS_ok a m1.1.1 m1.1.2; (try simp only [hM] at hh); exact hh) ?_
  cbv
  refine callI hC (by have hh := toValueS_ok b m2.1.1 m2.1.2; (try simp only [hM] at hh); exact hh) ?_
  cbv
  refine callN hC (by have hh := iCompare_ok a b a_b b_b; (try simp only [hM] at hh); exact hh) (fun g hg => ?_)
  cbv
  refine brkI (fun h => ?_) (fun h => ?_) <;> try cbv
  all_goals first
    | (exact absurd (hg.trans hw.symm) (eqF hF h))
    | skip
  refine callI hC (by have hh := toValueS_ok a m1.1.1 m1.1.2; (try simp only [hM] at hh); exact hh) ?_
  cbv
  refine callB hC (by have hh := eqValueS_ok a a_b; (try simp only [hM] at hh); exact hh) (fun hh => ?_) (fun hh => by cases hh)
  try cbv
  refine callI hC (by have hh := toValueS_ok b m2.1.1 m2.1.2; (try simp only [hM] at hh); exact hh) ?_
  cbv
  refine callB hC (by have hh := eqValueS_ok b b_b; (try simp only [hM] at hh); exact hh) (fun hh => ?_) (fun hh => by cases hh)
  try cbv
  exact hr.symm
end Go.Proofs.Ytcmgkfoppofniaa
