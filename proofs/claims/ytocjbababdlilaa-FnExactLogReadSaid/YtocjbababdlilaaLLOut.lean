/- Functions of the program, each with what it returns, run by the evaluator; the conditions stand in the theorems. -/
import Derived.Test.YtocjbababdlilaaLLog3
import Derived.Test.YtocjbababdlilaaLMarkD
import Derived.Test.YtocjbababdlilaaLMark
namespace Go.Proofs.Ytocjbababdlilaa
open Go Go.Proofs.YtocjbababdlilaaW Go.Proofs
set_option linter.unusedVariables false
set_option linter.unusedSimpArgs false
set_option maxRecDepth 100000
set_option maxHeartbeats 8000000
theorem eqLOut_ok (l : List Rcd) (n c : Int) (hl : l.length ≤ maxLen) : CallOK Try.prog 51 [.agg [.y (.sl 2 (l.map Rcd.row)), .y (yN n), .y (yN c)], .agg [.y (.sl 2 (l.map Rcd.row)), .y (yN n), .y (yN c)]] (B true) := by
  have h := eqRecordS_ok l hl
  obtain ⟨xs, hx⟩ : ∃ xs, xs = l.map Rcd.row := ⟨_, rfl⟩
  rw [← hx] at h ⊢
  clear hx
  obtain ⟨M, hM⟩ := mapEx
  try simp only [hM]
  refine go Try.func51 rfl rfl rfl rfl fun pAdd pSub pMul pQuo pRem pAnd pOr pXor pAndNot pShl pShr pNeg pCompl pConv pLt pLe pEq pSlt pSle pSeq pCat pCatOk pSlen pSsub pSat pIadd pIsub pBnot pBeq pImin pImax pLlen pLsub pLapp pLset pLcopy pLenOk pBytes pRep hF Ca hC r hr => ?_
  cbv
  refine callB hC h (fun hh => ?_) (fun hh => by cases hh)
  try cbv
  refine brT (mkEq hF rfl) ?_
  try cbv
  refine brT (mkEq hF rfl) ?_
  try cbv
  exact hr.symm
theorem markLOut_ok (l : List Rcd) (n c : Int) (k : Nat) (hl : l.length ≤ 1048576) (hk : k ≤ 1000000000) : CallOK Try.prog 52 [.ir true [.own 2 (l.map Rcd.row), .y (yN n), .y (yN c)], aN (Int.ofNat k)] ⟨.c (.y (.sc (.int .i64 (Int.ofNat (k + 2 * l.length))))), [[.own 2 ((mkRecordS k l.length).map Rcd.row), .no, .no]]⟩ := by
  have c1 := markRecordS_ok l k (by omega) (by omega)
  obtain ⟨k1, hk1⟩ : ∃ k1, k1 = k + 2 * l.length := ⟨_, rfl⟩
  obtain ⟨ms, hms⟩ : ∃ k1, k1 = mkRecordS k l.length := ⟨_, rfl⟩
  rw [← hk1, ← hms] at c1 ⊢
  clear hms hk1
  obtain ⟨M, hM⟩ := mapEx
  try simp only [hM]
  refine go Try.func52 rfl rfl rfl rfl fun pAdd pSub pMul pQuo pRem pAnd pOr pXor pAndNot pShl pShr pNeg pCompl pConv pLt pLe pEq pSlt pSle pSeq pCat pCatOk pSlen pSsub pSat pIadd pIsub pBnot pBeq pImin pImax pLlen pLsub pLapp pLset pLcopy pLenOk pBytes pRep hF Ca hC r hr => ?_
  cbv
  refine callI hC (by have hh := c1; (try simp only [hM] at hh); exact hh) ?_
  cbv
  exact hr.symm
theorem heldLOut_ok (m k : Nat) (n c : Int) (hm : m ≤ 1048576) (hk : k ≤ 1000000000) : CallOK Try.prog 53 [.agg [.y (.sl 2 ((mkRecordS k m).map Rcd.row)), .y (yN n), .y (yN c)], aN (Int.ofNat k)] (N (Int.ofNat (k + 2 * m))) := by
  have c1 := heldRecordS_ok k m (by omega) (by omega)
  obtain ⟨k1, hk1⟩ : ∃ k1, k1 = k + 2 * m := ⟨_, rfl⟩
  obtain ⟨ms, hms⟩ : ∃ k1, k1 = mkRecordS k m := ⟨_, rfl⟩
  rw [← hk1, ← hms] at c1 ⊢
  clear hms hk1
  obtain ⟨M, hM⟩ := mapEx
  try simp only [hM]
  refine go Try.func53 rfl rfl rfl rfl fun pAdd pSub pMul pQuo pRem pAnd pOr pXor pAndNot pShl pShr pNeg pCompl pConv pLt pLe pEq pSlt pSle pSeq pCat pCatOk pSlen pSsub pSat pIadd pIsub pBnot pBeq pImin pImax pLlen pLsub pLapp pLset pLcopy pLenOk pBytes pRep hF Ca hC r hr => ?_
  cbv
  refine callI hC (by have hh := c1; (try simp only [hM] at hh); exact hh) ?_
  cbv
  refine brkI (fun h => ?_) (fun h => ?_) <;> try cbv
  · exact absurd (ltT hF h) (by ((try simp only [Int.ofNat_eq_natCast] at *); omega))
  exact hr.symm
end Go.Proofs.Ytocjbababdlilaa
