/- Functions of the program, each with what it returns, run by the evaluator; the conditions stand in the theorems. -/
import Derived.Test.YtemfaiabbonpnaaGreatDoorLDbB2
namespace Go.Proofs.YtemfaiabbonpnaaGreatDoor
open Go Go.Proofs.YtemfaiabbonpnaaGreatDoorW Go.Proofs
set_option linter.unusedVariables false
set_option linter.unusedSimpArgs false
set_option maxRecDepth 100000
set_option maxHeartbeats 8000000
theorem lawDbBytes_ok (d : Dbs) (d_b : Dbs.Bd maxLen d) (d_r : Dbs.Rg d) : CallOK Tryz.prog 4 [.agg [.y (.sl 5 (d.tabs.map Tbl.row))]] (B true) := by
  obtain ⟨M, hM⟩ := mapEx
  try simp only [hM]
  refine go Tryz.func4 rfl rfl rfl rfl fun pAdd pSub pMul pQuo pRem pAnd pOr pXor pAndNot pShl pShr pNeg pCompl pConv pLt pLe pEq pSlt pSle pSeq pCat pCatOk pSlen pSsub pSat pIadd pIsub pBnot pBeq pImin pImax pLlen pLsub pLapp pLset pLcopy pLenOk pBytes pRep hF Ca hC r hr => ?_
  cbv
  refine callN hC (by have hh := szDb_ok d 1048576 (by decide) (by decide) d_b; (try simp only [hM] at hh); exact hh) (fun q1 hq1 => ?_)
  cbv
  refine brkI (fun h => ?_) (fun h => ?_) <;> try cbv
  · exact hr.symm
  have n1 : ¬ q1 < 0 := by have := ltF hF h; omega
  have m1 := Dbs.sz_ok d 1048576 (by decide) (by decide) (hq1 ▸ n1)
  rw [← hq1] at m1
  refine callI hC (by have hh := toDb_ok d m1.1; (try simp only [hM] at hh); exact hh) ?_
  cbv
  refine callS hC (by have hh := sDbBytes_ok d d_b m1.1 d_r; (try simp only [hM] at hh); exact hh) (fun w hw => ?_)
  cbv
  refine callI hC (by have hh := toDb_ok d m1.1; (try simp only [hM] at hh); exact hh) ?_
  cbv
  refine callS hC (by have hh := iDbBytes_ok d d_b m1.1 d_r; (try simp only [hM] at hh); exact hh) (fun g hg => ?_)
  cbv
  refine brkI (fun h => ?_) (fun h => ?_) <;> try cbv
  all_goals first
    | (exact absurd (hg.trans hw.symm) (seqF hF h))
    | skip
  refine callI hC (by have hh := toDb_ok d m1.1; (try simp only [hM] at hh); exact hh) ?_
  cbv
  refine callB hC (by have hh := eqDb_ok d d_b; (try simp only [hM] at hh); exact hh) (fun hh => ?_) (fun hh => by cases hh)
  try cbv
  exact hr.symm
end Go.Proofs.YtemfaiabbonpnaaGreatDoor
