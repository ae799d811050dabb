/- Functions of the program, each with what it returns, run by the evaluator; the conditions stand in the theorems. -/
import Derived.Test.YtngnflfjacappaaLNum
namespace Go.Proofs.Ytngnflfjacappaa
open Go Go.Proofs.YtngnflfjacappaaW Go.Proofs
set_option maxRecDepth 100000
set_option maxHeartbeats 8000000
theorem l08Seq_ok (n : Int) : CallOK Try.prog 43 [aN n] (B (decide (1 ≤ n) && decide (n ≤ 1000000000))) := by
  obtain ⟨M, hM⟩ := mapEx
  try simp only [hM]
  refine go Try.func43 rfl rfl rfl rfl fun pAdd pSub pMul pQuo pRem pAnd pOr pXor pAndNot pShl pShr pNeg pCompl pConv pLt pLe pEq pSlt pSle pSeq pCat pCatOk pSlen pSsub pSat pIadd pIsub pBnot pBeq pImin pImax pLlen pLsub pLapp pLset pLcopy pLenOk pBytes pRep hF Ca hC r hr => ?_
  cbv
  repeat' (refine brkI (fun _ => ?_) (fun _ => ?_) <;> try cbv)
  all_goals (cases hF; subst hr; simp_all <;> omega)
theorem isSeq_ok (n : Int) : CallOK Try.prog 41 [aN n] (B (decide (1 ≤ n) && decide (n ≤ 1000000000))) := by
  obtain ⟨M, hM⟩ := mapEx
  try simp only [hM]
  refine go Try.func41 rfl rfl rfl rfl fun pAdd pSub pMul pQuo pRem pAnd pOr pXor pAndNot pShl pShr pNeg pCompl pConv pLt pLe pEq pSlt pSle pSeq pCat pCatOk pSlen pSsub pSat pIadd pIsub pBnot pBeq pImin pImax pLlen pLsub pLapp pLset pLcopy pLenOk pBytes pRep hF Ca hC r hr => ?_
  cbv
  refine callB hC (within_ok _ _ _) (fun h => ?_) (fun h => ?_)
  all_goals cbv
  all_goals (rw [hr, h])
def recordRight (n : Int) (s : ByteArray) : Bool := decide (1 ≤ n) && decide (n ≤ 1000000000) && decide ((s.size : Int) ≤ 6000)
theorem sRecordRight_ok (n : Int) (s : ByteArray) : CallOK Try.prog 49 [.agg [.y (yN n), .y (yS s)]] (B (recordRight n s)) := by
  obtain ⟨M, hM⟩ := mapEx
  try simp only [hM]
  refine go Try.func49 rfl rfl rfl rfl fun pAdd pSub pMul pQuo pRem pAnd pOr pXor pAndNot pShl pShr pNeg pCompl pConv pLt pLe pEq pSlt pSle pSeq pCat pCatOk pSlen pSsub pSat pIadd pIsub pBnot pBeq pImin pImax pLlen pLsub pLapp pLset pLcopy pLenOk pBytes pRep hF Ca hC r hr => ?_
  cbv
  refine callB hC (l08Seq_ok _) (fun h => ?_) (fun h => ?_)
  all_goals cbv
  repeat' (refine brkI (fun _ => ?_) (fun _ => ?_) <;> try cbv)
  all_goals (cases hF; subst hr; simp_all [recordRight] <;> omega)
theorem iRecordRight_ok (n : Int) (s : ByteArray) : CallOK Try.prog 45 [.agg [.y (yN n), .y (yS s)]] (B (recordRight n s)) := by
  obtain ⟨M, hM⟩ := mapEx
  try simp only [hM]
  refine go Try.func45 rfl rfl rfl rfl fun pAdd pSub pMul pQuo pRem pAnd pOr pXor pAndNot pShl pShr pNeg pCompl pConv pLt pLe pEq pSlt pSle pSeq pCat pCatOk pSlen pSsub pSat pIadd pIsub pBnot pBeq pImin pImax pLlen pLsub pLapp pLset pLcopy pLenOk pBytes pRep hF Ca hC r hr => ?_
  cbv
  refine callB hC (isSeq_ok _) (fun h => ?_) (fun h => ?_)
  all_goals cbv
  repeat' (refine brkI (fun _ => ?_) (fun _ => ?_) <;> try cbv)
  all_goals (cases hF; subst hr; simp_all [recordRight] <;> omega)
def recordText (n : Int) (s : ByteArray) : ByteArray := ⟨⟨[76]⟩⟩ ++ putNum n ++ putText s
def recordBytes (n : Int) (s : ByteArray) : ByteArray := if recordRight n s then recordText n s ++ four (crcBare (recordText n s)) else ⟨⟨[]⟩⟩
theorem recordRight_is {n : Int} {s : ByteArray} (h : recordRight n s = true) : I64 n ∧ (putNum n).size ≤ 10 ∧ (putText s).size ≤ 6010 := by
  simp only [recordRight, Bool.and_eq_true, decide_eq_true_eq] at h
  obtain ⟨⟨h1, h2⟩, h3⟩ := h
  have hi : I64 n := ⟨by omega, by omega⟩
  refine ⟨hi, putNum_size n hi, ?_⟩
  have h4 : tooLong s = false := decide_eq_false (by omega)
  have h5 := putNum_size (s.size : Int) ⟨by omega, by omega⟩
  rw [putText, ite_f h4, ByteArray.size_append]; omega
theorem recordText_size {n : Int} {s : ByteArray} (h : recordRight n s = true) : (recordText n s).size ≤ 6021 := by
  obtain ⟨_, h2, h3⟩ := recordRight_is h
  rw [recordText, ByteArray.size_append, ByteArray.size_append]
  have : (⟨⟨[76]⟩⟩ : ByteArray).size = 1 := rfl
  omega
theorem sRecordBytes_ok (n : Int) (s : ByteArray) : CallOK Try.prog 20 [.agg [.y (yN n), .y (yS s)]] (St (recordBytes n s)) := by
  obtain ⟨M, hM⟩ := mapEx
  try simp only [hM]
  refine go Try.func20 rfl rfl rfl rfl fun pAdd pSub pMul pQuo pRem pAnd pOr pXor pAndNot pShl pShr pNeg pCompl pConv pLt pLe pEq pSlt pSle pSeq pCat pCatOk pSlen pSsub pSat pIadd pIsub pBnot pBeq pImin pImax pLlen pLsub pLapp pLset pLcopy pLenOk pBytes pRep hF Ca hC r hr => ?_
  cbv
  refine callB hC (sRecordRight_ok _ _) (fun h => ?_) (fun h => ?_) <;> cbv
  · obtain ⟨hi, h2, h3⟩ := recordRight_is h
    refine callS hC (sPutNum_ok _ hi) (fun a ha => ?_)
    cbv
    rw [← ha] at h2
    have hc1 : pCatOk ⟨⟨[76]⟩⟩ a = true := by cases hF; exact decide_eq_true (by show 1 + a.size ≤ _; omega)
    refine brT hc1 ?_
    refine callS hC (sPutText_ok _) (fun b hb => ?_)
    cbv
    rw [← hb] at h3
    have hc2 : pCatOk (pCat ⟨⟨[76]⟩⟩ a) b = true := by cases hF; exact decide_eq_true (by show (⟨⟨[76]⟩⟩ ++ a : ByteArray).size + b.size ≤ _; rw [ByteArray.size_append]; have : (⟨⟨[76]⟩⟩ : ByteArray).size = 1 := rfl; omega)
    refine brT hc2 ?_
    have e : pCat (pCat ⟨⟨[76]⟩⟩ a) b = recordText n s := by rw [ha, hb]; cases hF; rfl
    have hz := recordText_size h
    obtain ⟨x, hx⟩ : ∃ x, x = recordText n s := ⟨_, rfl⟩
    rw [e, ← hx]
    rw [← hx] at hz
    refine callS hC (sSeal_ok _ (by rw [maxLen_is]; omega)) (fun c hc => ?_)
    cbv
    rw [hr, recordBytes, ite_t h, hc, sealOf, if_neg (by omega), hx]
  · rw [hr, recordBytes, ite_f h]
theorem iRecordBytes_ok (n : Int) (s : ByteArray) : CallOK Try.prog 46 [.agg [.y (yN n), .y (yS s)]] (St (recordBytes n s)) := by
  obtain ⟨M, hM⟩ := mapEx
  try simp only [hM]
  refine go Try.func46 rfl rfl rfl rfl fun pAdd pSub pMul pQuo pRem pAnd pOr pXor pAndNot pShl pShr pNeg pCompl pConv pLt pLe pEq pSlt pSle pSeq pCat pCatOk pSlen pSsub pSat pIadd pIsub pBnot pBeq pImin pImax pLlen pLsub pLapp pLset pLcopy pLenOk pBytes pRep hF Ca hC r hr => ?_
  cbv
  refine callB hC (iRecordRight_ok _ _) (fun h => ?_) (fun h => ?_) <;> cbv
  · obtain ⟨hi, h2, h3⟩ := recordRight_is h
    refine callS hC (iPutNum_ok _ hi) (fun a ha => ?_)
    cbv
    rw [← ha] at h2
    have hc1 : pCatOk ⟨⟨[76]⟩⟩ a = true := by cases hF; exact decide_eq_true (by show 1 + a.size ≤ _; omega)
    refine brT hc1 ?_
    refine callS hC (iPutText_ok _) (fun b hb => ?_)
    cbv
    rw [← hb] at h3
    have hc2 : pCatOk (pCat ⟨⟨[76]⟩⟩ a) b = true := by cases hF; exact decide_eq_true (by show (⟨⟨[76]⟩⟩ ++ a : ByteArray).size + b.size ≤ _; rw [ByteArray.size_append]; have : (⟨⟨[76]⟩⟩ : ByteArray).size = 1 := rfl; omega)
    refine brT hc2 ?_
    have e : pCat (pCat ⟨⟨[76]⟩⟩ a) b = recordText n s := by rw [ha, hb]; cases hF; rfl
    have hz := recordText_size h
    obtain ⟨x, hx⟩ : ∃ x, x = recordText n s := ⟨_, rfl⟩
    rw [e, ← hx]
    rw [← hx] at hz
    refine callS hC (sealed_ok _ (by rw [maxLen_is]; omega)) (fun c hc => ?_)
    cbv
    rw [hr, recordBytes, ite_t h, hc, hx]
  · rw [hr, recordBytes, ite_f h]
end Go.Proofs.Ytngnflfjacappaa
