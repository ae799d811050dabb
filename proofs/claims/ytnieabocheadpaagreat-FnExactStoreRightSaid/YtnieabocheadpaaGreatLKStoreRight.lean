/- Functions of the program, each with what it returns, run by the evaluator; the conditions stand in the theorems. -/
import Derived.Test.YtnieabocheadpaaGreatLSto
namespace Go.Proofs.YtnieabocheadpaaGreat
open Go Go.Proofs.YtnieabocheadpaaGreatW Go.Proofs
set_option linter.unusedVariables false
set_option linter.unusedSimpArgs false
set_option maxRecDepth 100000
set_option maxHeartbeats 8000000
theorem lawStoreRight_ok (s : Sto) (s_b : Sto.Bd maxLen s) (s_r : Sto.Rg s) : CallOK Tryz.prog 5 [.agg [.y (.sl 1 (s.disk.secs.map rowS)), .y (.sl 2 (s.disk.cache.map Wr.row)), .y (.sl 5 (s.db.tabs.map Tbl.row)), .y (yN s.seq), .y (yN s.nxt)]] (B true) := by
  obtain ⟨M, hM⟩ := mapEx
  try simp only [hM]
  refine go Tryz.func5 rfl rfl rfl rfl fun pAdd pSub pMul pQuo pRem pAnd pOr pXor pAndNot pShl pShr pNeg pCompl pConv pLt pLe pEq pSlt pSle pSeq pCat pCatOk pSlen pSsub pSat pIadd pIsub pBnot pBeq pImin pImax pLlen pLsub pLapp pLset pLcopy pLenOk pBytes pRep hF Ca hC r hr => ?_
  cbv
  refine callN hC (by have hh := szStore_ok s 1048576 (by decide) (by decide) s_b; (try simp only [hM] at hh); exact hh) (fun q1 hq1 => ?_)
  cbv
  refine brkI (fun h => ?_) (fun h => ?_) <;> try cbv
  · exact hr.symm
  have n1 : ¬ q1 < 0 := by have := ltF hF h; omega
  have m1 := Sto.sz_ok s 1048576 (by decide) (by decide) (hq1 ▸ n1)
  rw [← hq1] at m1
  refine callI hC (by have hh := toStore_ok s m1.1; (try simp only [hM] at hh); exact hh) ?_
  cbv
  refine callB hC (by have hh := sStoreRight_ok s m1.1; (try simp only [hM] at hh); exact hh) (fun h1 => ?_) (fun h1 => ?_) <;> try cbv
  all_goals
    refine callI hC (by have hh := toStore_ok s m1.1; (try simp only [hM] at hh); exact hh) ?_
    cbv
    refine callB hC (by have hh := iStoreRight_ok s m1.1; (try simp only [hM] at hh); exact hh) (fun h2 => ?_) (fun h2 => ?_) <;> try cbv
    all_goals first
      | (exact absurd (h1.symm.trans h2) (by decide))
      | skip
    refine callI hC (by have hh := toStore_ok s m1.1; (try simp only [hM] at hh); exact hh) ?_
    cbv
    refine callB hC (by have hh := eqStore_ok s s_b; (try simp only [hM] at hh); exact hh) (fun hh => ?_) (fun hh => by cases hh)
    try cbv
    exact hr.symm
end Go.Proofs.YtnieabocheadpaaGreat
