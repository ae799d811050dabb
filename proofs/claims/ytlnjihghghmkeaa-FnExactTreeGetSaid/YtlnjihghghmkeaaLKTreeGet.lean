/- Functions of the program, each with what it returns, run by the evaluator; the conditions stand in the theorems. -/
import Derived.Test.YtlnjihghghmkeaaLTr8
namespace Go.Proofs.Ytlnjihghghmkeaa
open Go Go.Proofs.YtlnjihghghmkeaaW Go.Proofs
set_option linter.unusedVariables false
set_option linter.unusedSimpArgs false
set_option maxRecDepth 100000
set_option maxHeartbeats 8000000
theorem lawTreeGet_ok (t : Tr) (t_b : Tr.Bd maxLen t) (t_r : Tr.Rg t) (key : ByteArray) (key_b : key.size ≤ maxLen) : CallOK Try.prog 7 [.agg [.y (.sl 1 (t.keys.map rowS)), .y (.sl 1 (t.vals.map rowS)), .y (.sl 3 (t.kids.map Tr.row))], aS key] (B true) := by
  obtain ⟨M, hM⟩ := mapEx
  try simp only [hM]
  refine go Try.func7 rfl rfl rfl rfl fun pAdd pSub pMul pQuo pRem pAnd pOr pXor pAndNot pShl pShr pNeg pCompl pConv pLt pLe pEq pSlt pSle pSeq pCat pCatOk pSlen pSsub pSat pIadd pIsub pBnot pBeq pImin pImax pLlen pLsub pLapp pLset pLcopy pLenOk pBytes pRep hF Ca hC r hr => ?_
  cbv
  refine brkI (fun h => ?_) (fun h => ?_) <;> try cbv
  · exact hr.symm
  have key_h := ltF hF h
  have key_q : key.size ≤ 1048576 := by have e : pSlen key = Int.ofNat key.size := slenIs hF key; rw [e] at key_h; ((try simp only [Int.ofNat_eq_natCast] at *); omega)
  refine callN hC (by have hh := szTree_ok t 1048576 (by decide) (by decide) t_b; (try simp only [hM] at hh); exact hh) (fun q1 hq1 => ?_)
  cbv
  refine brkI (fun h => ?_) (fun h => ?_) <;> try cbv
  · exact hr.symm
  have n1 : ¬ q1 < 0 := by have := ltF hF h; omega
  have m1 := Tr.sz_ok t 1048576 (by decide) (by decide) (hq1 ▸ n1)
  rw [← hq1] at m1
  refine callI hC (by have hh := toTree_ok t m1.1; (try simp only [hM] at hh); exact hh) ?_
  cbv
  have c1 := sTreeGet_ok t key m1.1
  have c2 := iTreeGet_ok t key m1.1
  obtain ⟨v, h_v⟩ : ∃ x, x = outVal t key := ⟨_, rfl⟩
  obtain ⟨c, h_c⟩ : ∃ x, x = outCode t key := ⟨_, rfl⟩
  rw [← h_v, ← h_c] at c1 c2
  refine callI hC (by have hh := c1; (try simp only [hM] at hh); exact hh) ?_
  cbv
  refine callI hC (by have hh := toTree_ok t m1.1; (try simp only [hM] at hh); exact hh) ?_
  cbv
  refine callI hC (by have hh := c2; (try simp only [hM] at hh); exact hh) ?_
  cbv
  refine callB hC (by have hh := eqTreeOut_ok v c; (try simp only [hM] at hh); exact hh) (fun hh => ?_) (fun hh => by cases hh)
  try cbv
  refine callI hC (by have hh := toTree_ok t m1.1; (try simp only [hM] at hh); exact hh) ?_
  cbv
  refine callB hC (by have hh := eqTree_ok t t_b; (try simp only [hM] at hh); exact hh) (fun hh => ?_) (fun hh => by cases hh)
  try cbv
  exact hr.symm
end Go.Proofs.Ytlnjihghghmkeaa
