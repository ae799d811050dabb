/- Functions of the program, each with what it returns, run by the evaluator; the conditions stand in the theorems. -/
import Derived.Test.YtemfaiabbonpnaaGreatDoorLOpB
namespace Go.Proofs.YtemfaiabbonpnaaGreatDoor
open Go Go.Proofs.YtemfaiabbonpnaaGreatDoorW Go.Proofs
set_option linter.unusedVariables false
set_option linter.unusedSimpArgs false
set_option maxRecDepth 100000
set_option maxHeartbeats 8000000
theorem lawOpsBytes_ok (l : List Opn) (l_b : l.length ≤ maxLen) (l_c : ∀ v ∈ l, Opn.Bd maxLen v) (l_r : ∀ v ∈ l, Opn.Rg v) : CallOK Tryz.prog 3 [.c (.y (.sl 7 (l.map Opn.row)))] (B true) := by
  obtain ⟨M, hM⟩ := mapEx
  try simp only [hM]
  refine go Tryz.func3 rfl rfl rfl rfl fun pAdd pSub pMul pQuo pRem pAnd pOr pXor pAndNot pShl pShr pNeg pCompl pConv pLt pLe pEq pSlt pSle pSeq pCat pCatOk pSlen pSsub pSat pIadd pIsub pBnot pBeq pImin pImax pLlen pLsub pLapp pLset pLcopy pLenOk pBytes pRep hF Ca hC r hr => ?_
  cbv
  refine callN hC (by have hh := szOpS_ok l 1048576 (by decide) (by decide) l_b l_c; (try simp only [hM] at hh); exact hh) (fun q1 hq1 => ?_)
  cbv
  refine brkI (fun h => ?_) (fun h => ?_) <;> try cbv
  · exact hr.symm
  have n1 : ¬ q1 < 0 := by have := ltF hF h; omega
  have m1 := (szL_ok Opn.sz_ok) l 1048576 (by decide) (by decide) (hq1 ▸ n1)
  rw [← hq1] at m1
  refine callI hC (by have hh := toOpS_ok l m1.1.1 m1.1.2; (try simp only [hM] at hh); exact hh) ?_
  cbv
  refine callS hC (by have hh := sOpsBytes_ok l l_b l_c m1.1.2 l_r; (try simp only [hM] at hh); exact hh) (fun w hw => ?_)
  cbv
  refine callI hC (by have hh := toOpS_ok l m1.1.1 m1.1.2; (try simp only [hM] at hh); exact hh) ?_
  cbv
  refine callS hC (by have hh := iOpsBytes_ok l l_b l_c m1.1.2 l_r; (try simp only [hM] at hh); exact hh) (fun g hg => ?_)
  cbv
  refine brkI (fun h => ?_) (fun h => ?_) <;> try cbv
  all_goals first
    | (exact absurd (hg.trans hw.symm) (seqF hF h))
    | skip
  refine callI hC (by have hh := toOpS_ok l m1.1.1 m1.1.2; (try simp only [hM] at hh); exact hh) ?_
  cbv
  refine callB hC (by have hh := eqOpS_ok l l_b l_c; (try simp only [hM] at hh); exact hh) (fun hh => ?_) (fun hh => by cases hh)
  try cbv
  exact hr.symm
end Go.Proofs.YtemfaiabbonpnaaGreatDoor
