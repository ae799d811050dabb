/- Functions of the program, each with what it returns, run by the evaluator; the conditions stand in the theorems. -/
import Derived.Test.YteennikekhiedaaTab
namespace Go.Proofs.Yteennikekhiedaa
open Go Go.Proofs.YteennikekhiedaaW Go.Proofs
set_option maxRecDepth 100000
set_option maxHeartbeats 8000000
theorem within_ok (n a b : Int) : CallOK Try.prog 44 [aN n, aN a, aN b] (B (decide (a ≤ n) && decide (n ≤ b))) := by
  refine go Try.func44 rfl rfl rfl rfl fun pAdd pSub pMul pQuo pRem pAnd pOr pXor pAndNot pShl pShr pNeg pCompl pConv pLt pLe pEq pSlt pSle pSeq pCat pCatOk pSlen pSsub pSat pIadd pIsub pBnot pBeq pImin pImax pLlen pLsub pLapp pLset pLcopy pLenOk pBytes pRep hF Ca hC r hr => ?_
  cbv
  repeat' (refine brkI (fun _ => ?_) (fun _ => ?_) <;> try cbv)
  all_goals (cases hF; subst hr; simp_all <;> omega)
def valueRight (k n : Int) (s : ByteArray) : Bool :=
  if k = 0 then decide (n = 0) && decide (s.toList = []) else if k = 1 then decide (0 ≤ n) && decide (n ≤ 1) && decide (s.toList = [])
  else if k = 2 then decide (s.toList = []) else if k = 3 then decide (n = 0) && decide (s.size ≤ 200) else false
theorem sValueRight_ok (k n : Int) (s : ByteArray) : CallOK Try.prog 23 [.agg [.y (yN k), .y (yN n), .y (yS s)]] (B (valueRight k n s)) := by
  refine go Try.func23 rfl rfl rfl rfl fun pAdd pSub pMul pQuo pRem pAnd pOr pXor pAndNot pShl pShr pNeg pCompl pConv pLt pLe pEq pSlt pSle pSeq pCat pCatOk pSlen pSsub pSat pIadd pIsub pBnot pBeq pImin pImax pLlen pLsub pLapp pLset pLcopy pLenOk pBytes pRep hF Ca hC r hr => ?_
  cbv
  repeat' (refine brkI (fun _ => ?_) (fun _ => ?_) <;> try cbv)
  all_goals (cases hF; subst hr; unfold valueRight; simp_all <;> first | omega | skip)
theorem iValueRight_ok (k n : Int) (s : ByteArray) : CallOK Try.prog 25 [.agg [.y (yN k), .y (yN n), .y (yS s)]] (B (valueRight k n s)) := by
  refine go Try.func25 rfl rfl rfl rfl fun pAdd pSub pMul pQuo pRem pAnd pOr pXor pAndNot pShl pShr pNeg pCompl pConv pLt pLe pEq pSlt pSle pSeq pCat pCatOk pSlen pSsub pSat pIadd pIsub pBnot pBeq pImin pImax pLlen pLsub pLapp pLset pLcopy pLenOk pBytes pRep hF Ca hC r hr => ?_
  cbv
  repeat' (first | (refine brkI (fun _ => ?_) (fun _ => ?_) <;> try cbv) | (refine callB hC (within_ok _ _ _) (fun _ => ?_) (fun _ => ?_) <;> cbv))
  all_goals (cases hF; subst hr; unfold valueRight; simp_all <;> first | omega | skip)
theorem toValue_ok (k n : Int) (s : ByteArray) : CallOK Try.prog 24 [.agg [.y (yN k), .y (yN n), .y (yS s)]] ⟨.agg [.y (yN k), .y (yN n), .y (yS s)], []⟩ := by
  refine go Try.func24 rfl rfl rfl rfl fun pAdd pSub pMul pQuo pRem pAnd pOr pXor pAndNot pShl pShr pNeg pCompl pConv pLt pLe pEq pSlt pSle pSeq pCat pCatOk pSlen pSsub pSat pIadd pIsub pBnot pBeq pImin pImax pLlen pLsub pLapp pLset pLcopy pLenOk pBytes pRep hF Ca hC r hr => ?_
  cbv
  exact hr.symm
def less (left : Int) (s : ByteArray) : Int := if left < s.size then -1 else left - s.size
theorem szValue_ok (k n : Int) (s : ByteArray) (left : Int) (h1 : 0 ≤ left) (h2 : left ≤ 1048576) (hs : s.size ≤ maxLen) : CallOK Try.prog 22 [.agg [.y (yN k), .y (yN n), .y (yS s)], aN left] (N (less left s)) := by
  refine go Try.func22 rfl rfl rfl rfl fun pAdd pSub pMul pQuo pRem pAnd pOr pXor pAndNot pShl pShr pNeg pCompl pConv pLt pLe pEq pSlt pSle pSeq pCat pCatOk pSlen pSsub pSat pIadd pIsub pBnot pBeq pImin pImax pLlen pLsub pLapp pLset pLcopy pLenOk pBytes pRep hF Ca hC r hr => ?_
  cbv
  have e : pSub .i64 left (pSlen s) = left - pSlen s := by cases hF; exact wrap_i64 (by simp [maxLen] at *; omega) (by simp; omega)
  refine brkI (fun h => ?_) (fun h => ?_) <;> try cbv
  all_goals rw [e] at h
  · cases hF; subst hr
    have h' : left < s.size := by simp at h; omega
    simp only [less, if_pos h']
  · rw [e]
    cases hF; subst hr
    have h' : ¬ left < s.size := by simp at h; omega
    simp only [less, if_neg h']
theorem law_ok (k n : Int) (s : ByteArray) (hs : s.size ≤ maxLen) : CallOK Try.prog 7 [.agg [.y (yN k), .y (yN n), .y (yS s)]] (B true) := by
  refine go Try.func7 rfl rfl rfl rfl fun pAdd pSub pMul pQuo pRem pAnd pOr pXor pAndNot pShl pShr pNeg pCompl pConv pLt pLe pEq pSlt pSle pSeq pCat pCatOk pSlen pSsub pSat pIadd pIsub pBnot pBeq pImin pImax pLlen pLsub pLapp pLset pLcopy pLenOk pBytes pRep hF Ca hC r hr => ?_
  cbv
  refine callN hC (szValue_ok _ _ _ _ (by decide) (by decide) hs) (fun m hm => ?_)
  cbv
  refine brkI (fun h => ?_) (fun h => ?_) <;> try cbv
  · exact hr.symm
  · refine callI hC (toValue_ok _ _ _) ?_
    cbv
    refine callB hC (sValueRight_ok _ _ _) (fun h1 => ?_) (fun h1 => ?_)
    all_goals cbv
    all_goals (refine callI hC (toValue_ok _ _ _) ?_; cbv)
    all_goals (refine callB hC (iValueRight_ok _ _ _) (fun h2 => ?_) (fun h2 => ?_) <;> cbv)
    all_goals first | exact hr.symm | (rw [h1] at h2; cases h2)
end Go.Proofs.Yteennikekhiedaa
