/- Functions of the program, each with what it returns, run by the evaluator; the conditions stand in the theorems. -/
import Derived.Test.YteennikekhiedaaTab
namespace Go.Proofs.Yteennikekhiedaa
open Go Go.Proofs.YteennikekhiedaaW Go.Proofs
set_option maxRecDepth 100000
set_option maxHeartbeats 8000000
theorem l08Seq_ok (n : Int) : CallOK Try.prog 42 [aN n] (B (decide (1 ≤ n) && decide (n ≤ 1000000000))) := by
  refine go Try.func42 rfl rfl rfl rfl fun pAdd pSub pMul pQuo pRem pAnd pOr pXor pAndNot pShl pShr pNeg pCompl pConv pLt pLe pEq pSlt pSle pSeq pCat pCatOk pSlen pSsub pSat pIadd pIsub pBnot pBeq pImin pImax pLlen pLsub pLapp pLset pLcopy pLenOk pBytes pRep hF Ca hC r hr => ?_
  cbv
  repeat' (refine brkI (fun _ => ?_) (fun _ => ?_) <;> try cbv)
  all_goals (cases hF; subst hr; simp_all <;> omega)
theorem within_ok (n a b : Int) : CallOK Try.prog 44 [aN n, aN a, aN b] (B (decide (a ≤ n) && decide (n ≤ b))) := by
  refine go Try.func44 rfl rfl rfl rfl fun pAdd pSub pMul pQuo pRem pAnd pOr pXor pAndNot pShl pShr pNeg pCompl pConv pLt pLe pEq pSlt pSle pSeq pCat pCatOk pSlen pSsub pSat pIadd pIsub pBnot pBeq pImin pImax pLlen pLsub pLapp pLset pLcopy pLenOk pBytes pRep hF Ca hC r hr => ?_
  cbv
  repeat' (refine brkI (fun _ => ?_) (fun _ => ?_) <;> try cbv)
  all_goals (cases hF; subst hr; simp_all <;> omega)
theorem isSeq_ok (n : Int) : CallOK Try.prog 43 [aN n] (B (decide (1 ≤ n) && decide (n ≤ 1000000000))) := by
  refine go Try.func43 rfl rfl rfl rfl fun pAdd pSub pMul pQuo pRem pAnd pOr pXor pAndNot pShl pShr pNeg pCompl pConv pLt pLe pEq pSlt pSle pSeq pCat pCatOk pSlen pSsub pSat pIadd pIsub pBnot pBeq pImin pImax pLlen pLsub pLapp pLset pLcopy pLenOk pBytes pRep hF Ca hC r hr => ?_
  cbv
  refine callB hC (within_ok _ _ _) (fun h => ?_) (fun h => ?_)
  all_goals cbv
  all_goals (rw [hr, h])
def recordRight (n : Int) (s : ByteArray) : Bool := decide (1 ≤ n) && decide (n ≤ 1000000000) && decide ((s.size : Int) ≤ 6000)
theorem sRecordRight_ok (n : Int) (s : ByteArray) : CallOK Try.prog 15 [.agg [.y (yN n), .y (yS s)]] (B (recordRight n s)) := by
  refine go Try.func15 rfl rfl rfl rfl fun pAdd pSub pMul pQuo pRem pAnd pOr pXor pAndNot pShl pShr pNeg pCompl pConv pLt pLe pEq pSlt pSle pSeq pCat pCatOk pSlen pSsub pSat pIadd pIsub pBnot pBeq pImin pImax pLlen pLsub pLapp pLset pLcopy pLenOk pBytes pRep hF Ca hC r hr => ?_
  cbv
  refine callB hC (l08Seq_ok _) (fun h => ?_) (fun h => ?_)
  all_goals cbv
  repeat' (refine brkI (fun _ => ?_) (fun _ => ?_) <;> try cbv)
  all_goals (cases hF; subst hr; simp_all [recordRight] <;> omega)
theorem iRecordRight_ok (n : Int) (s : ByteArray) : CallOK Try.prog 17 [.agg [.y (yN n), .y (yS s)]] (B (recordRight n s)) := by
  refine go Try.func17 rfl rfl rfl rfl fun pAdd pSub pMul pQuo pRem pAnd pOr pXor pAndNot pShl pShr pNeg pCompl pConv pLt pLe pEq pSlt pSle pSeq pCat pCatOk pSlen pSsub pSat pIadd pIsub pBnot pBeq pImin pImax pLlen pLsub pLapp pLset pLcopy pLenOk pBytes pRep hF Ca hC r hr => ?_
  cbv
  refine callB hC (isSeq_ok _) (fun h => ?_) (fun h => ?_)
  all_goals cbv
  repeat' (refine brkI (fun _ => ?_) (fun _ => ?_) <;> try cbv)
  all_goals (cases hF; subst hr; simp_all [recordRight] <;> omega)
theorem toRecord_ok (n : Int) (s : ByteArray) : CallOK Try.prog 16 [.agg [.y (yN n), .y (yS s)]] ⟨.agg [.y (yN n), .y (yS s)], []⟩ := by
  refine go Try.func16 rfl rfl rfl rfl fun pAdd pSub pMul pQuo pRem pAnd pOr pXor pAndNot pShl pShr pNeg pCompl pConv pLt pLe pEq pSlt pSle pSeq pCat pCatOk pSlen pSsub pSat pIadd pIsub pBnot pBeq pImin pImax pLlen pLsub pLapp pLset pLcopy pLenOk pBytes pRep hF Ca hC r hr => ?_
  cbv
  exact hr.symm
def less (left : Int) (s : ByteArray) : Int := if left < s.size then -1 else left - s.size
theorem szRecord_ok (n : Int) (s : ByteArray) (left : Int) (h1 : 0 ≤ left) (h2 : left ≤ 1048576) (hs : s.size ≤ maxLen) : CallOK Try.prog 14 [.agg [.y (yN n), .y (yS s)], aN left] (N (less left s)) := by
  refine go Try.func14 rfl rfl rfl rfl fun pAdd pSub pMul pQuo pRem pAnd pOr pXor pAndNot pShl pShr pNeg pCompl pConv pLt pLe pEq pSlt pSle pSeq pCat pCatOk pSlen pSsub pSat pIadd pIsub pBnot pBeq pImin pImax pLlen pLsub pLapp pLset pLcopy pLenOk pBytes pRep hF Ca hC r hr => ?_
  cbv
  have e : pSub .i64 left (pSlen s) = left - pSlen s := by cases hF; exact wrap_i64 (by simp [maxLen] at *; omega) (by simp; omega)
  refine brkI (fun h => ?_) (fun h => ?_) <;> try cbv
  all_goals rw [e] at h
  · cases hF; subst hr
    have h' : left < s.size := by simp at h; omega
    simp only [less, if_pos h']
  · rw [e]
    cases hF; subst hr
    have h' : ¬ left < s.size := by simp at h; omega
    simp only [less, if_neg h']
theorem law_ok (n : Int) (s : ByteArray) (hs : s.size ≤ maxLen) : CallOK Try.prog 4 [.agg [.y (yN n), .y (yS s)]] (B true) := by
  refine go Try.func4 rfl rfl rfl rfl fun pAdd pSub pMul pQuo pRem pAnd pOr pXor pAndNot pShl pShr pNeg pCompl pConv pLt pLe pEq pSlt pSle pSeq pCat pCatOk pSlen pSsub pSat pIadd pIsub pBnot pBeq pImin pImax pLlen pLsub pLapp pLset pLcopy pLenOk pBytes pRep hF Ca hC r hr => ?_
  cbv
  refine callN hC (szRecord_ok _ _ _ (by decide) (by decide) hs) (fun m hm => ?_)
  cbv
  refine brkI (fun h => ?_) (fun h => ?_) <;> try cbv
  · exact hr.symm
  · refine callI hC (toRecord_ok _ _) ?_
    cbv
    refine callB hC (sRecordRight_ok _ _) (fun h1 => ?_) (fun h1 => ?_)
    all_goals cbv
    all_goals (refine callI hC (toRecord_ok _ _) ?_; cbv)
    all_goals (refine callB hC (iRecordRight_ok _ _) (fun h2 => ?_) (fun h2 => ?_) <;> cbv)
    all_goals first | exact hr.symm | (rw [h1] at h2; cases h2)
end Go.Proofs.Yteennikekhiedaa
