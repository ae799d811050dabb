/- Functions of the program, each with what it returns, run by the evaluator; the conditions stand in the theorems. -/
import Derived.Test.YtcmgkfoppofniaaLQry2
namespace Go.Proofs.Ytcmgkfoppofniaa
open Go Go.Proofs.YtcmgkfoppofniaaW Go.Proofs
set_option linter.unusedVariables false
set_option linter.unusedSimpArgs false
set_option maxRecDepth 100000
set_option maxHeartbeats 8000000
theorem valueRight_cases {k n : Int} {s : ByteArray} (h : valueRight k n s = true) : (k = 0 ∧ n = 0 ∧ s = ⟨⟨[]⟩⟩) ∨ (k = 1 ∧ 0 ≤ n ∧ n ≤ 1 ∧ s = ⟨⟨[]⟩⟩) ∨ (k = 2 ∧ s = ⟨⟨[]⟩⟩) ∨ (k = 3 ∧ n = 0) := by
  have e : s.toList = [] ↔ s = ⟨⟨[]⟩⟩ := by rw [← toList_inj, show (⟨⟨[]⟩⟩ : ByteArray).toList = [] by rw [ByteArray.toList_eq]]
  rw [← e]
  unfold valueRight at h
  grind
theorem valueRight_null {n : Int} {s : ByteArray} : valueRight 0 n s = decide (n = 0 ∧ s = ⟨⟨[]⟩⟩) := by
  have e : s.toList = [] ↔ s = ⟨⟨[]⟩⟩ := by rw [← toList_inj, show (⟨⟨[]⟩⟩ : ByteArray).toList = [] by rw [ByteArray.toList_eq]]
  simp only [← e]
  unfold valueRight
  grind
def valTerm (k n : Int) (s : ByteArray) : Bool := valueRight k n s && (decide (k ≠ 0) && ((decide (k ≠ 3) || plain s) && (decide (n < 1000000000000000000) && decide (-1000000000000000000 < n))))
def termRight (c o : ByteArray) (k n : Int) (s : ByteArray) : Bool := colName c && (if o = ⟨⟨[105, 115]⟩⟩ then decide (k = 0 ∧ n = 0 ∧ s = ⟨⟨[]⟩⟩) else isOp o && valTerm k n s)
theorem sVal_ok (k n : Int) (s : ByteArray) (hl : s.size ≤ maxLen) : CallOK Try.prog 172 [.agg [.y (yN k), .y (yN n), .y (yS s)]] (B (valTerm k n s)) := by
  have h1 := sValueRight_ok k n s
  have h2 := sPlain_ok s hl
  obtain ⟨q, hq⟩ : ∃ q, q = valTerm k n s := ⟨_, rfl⟩
  rw [← hq]
  rw [valTerm] at hq
  obtain ⟨v, hv⟩ : ∃ q, q = valueRight k n s := ⟨_, rfl⟩
  obtain ⟨p, hp⟩ : ∃ q, q = plain s := ⟨_, rfl⟩
  rw [← hv] at h1 hq
  rw [← hp] at h2 hq
  clear hv hp
  obtain ⟨M, hM⟩ := mapEx
  try simp only [hM]
  refine go Try.func172 rfl rfl rfl rfl fun pAdd pSub pMul pQuo pRem pAnd pOr pXor pAndNot pShl pShr pNeg pCompl pConv pLt pLe pEq pSlt pSle pSeq pCat pCatOk pSlen pSsub pSat pIadd pIsub pBnot pBeq pImin pImax pLlen pLsub pLapp pLset pLcopy pLenOk pBytes pRep hF Ca hC r hr => ?_
  cbv
  repeat' (first
    | (refine callB hC h1 (fun _ => ?_) (fun _ => ?_) <;> try cbv)
    | (refine callB hC h2 (fun _ => ?_) (fun _ => ?_) <;> try cbv)
    | (refine brkI (fun _ => ?_) (fun _ => ?_) <;> try cbv))
  all_goals
    refine retB hr (hq.trans ?_)
    clear hC hr hq h1 h2
    have lD : ∀ a b, pLt a b = decide (a < b) := ltD hF
    have eD : ∀ a b, pLe a b = decide (a ≤ b) := leD hF
    have qD : ∀ a b, pEq a b = decide (a = b) := eqD hF
    have sD : ∀ a b, pSeq a b = decide (a = b) := seqD hF
    simp only [lD, eD, qD, sD, decide_eq_true_eq, decide_eq_false_iff_not] at *
    clear lD eD qD sD hF
    grind
theorem sTerm_ok (c o : ByteArray) (k n : Int) (s : ByteArray) (hc : c.size ≤ 1048576) (hl : s.size ≤ maxLen) : CallOK Try.prog 132 [.agg [.y (yS c), .y (yS o), .y (yN k), .y (yN n), .y (yS s)]] (B (termRight c o k n s)) := by
  have h1 := sCol_ok c hc
  have h2 := sOp_ok o
  have h3 := sVal_ok k n s hl
  obtain ⟨q, hq⟩ : ∃ q, q = termRight c o k n s := ⟨_, rfl⟩
  rw [← hq]
  rw [termRight] at hq
  obtain ⟨p1, e1⟩ : ∃ q, q = colName c := ⟨_, rfl⟩
  obtain ⟨p2, e2⟩ : ∃ q, q = isOp o := ⟨_, rfl⟩
  obtain ⟨p3, e3⟩ : ∃ q, q = valTerm k n s := ⟨_, rfl⟩
  rw [← e1] at h1 hq
  rw [← e2] at h2 hq
  rw [← e3] at h3 hq
  clear e1 e2 e3
  obtain ⟨M, hM⟩ := mapEx
  try simp only [hM]
  refine go Try.func132 rfl rfl rfl rfl fun pAdd pSub pMul pQuo pRem pAnd pOr pXor pAndNot pShl pShr pNeg pCompl pConv pLt pLe pEq pSlt pSle pSeq pCat pCatOk pSlen pSsub pSat pIadd pIsub pBnot pBeq pImin pImax pLlen pLsub pLapp pLset pLcopy pLenOk pBytes pRep hF Ca hC r hr => ?_
  cbv
  repeat' (first
    | (refine callB hC h1 (fun _ => ?_) (fun _ => ?_) <;> try cbv)
    | (refine callB hC h2 (fun _ => ?_) (fun _ => ?_) <;> try cbv)
    | (refine callB hC h3 (fun _ => ?_) (fun _ => ?_) <;> try cbv)
    | (refine brkI (fun _ => ?_) (fun _ => ?_) <;> try cbv))
  all_goals
    refine retB hr (hq.trans ?_)
    clear hC hr hq h1 h2 h3
    have lD : ∀ a b, pLt a b = decide (a < b) := ltD hF
    have eD : ∀ a b, pLe a b = decide (a ≤ b) := leD hF
    have qD : ∀ a b, pEq a b = decide (a = b) := eqD hF
    have sD : ∀ a b, pSeq a b = decide (a = b) := seqD hF
    simp only [lD, eD, qD, sD, decide_eq_true_eq, decide_eq_false_iff_not] at *
    clear lD eD qD sD hF
    grind
theorem iTerm_ok (c o : ByteArray) (k n : Int) (s : ByteArray) (hc : c.size ≤ maxLen) (hl : s.size ≤ maxLen) : CallOK Try.prog 142 [.agg [.y (yS c), .y (yS o), .y (yN k), .y (yN n), .y (yS s)]] (B (termRight c o k n s)) := by
  have h1 := iCol_ok c hc
  have h2 := iOp_ok o
  have h3 := iValueRight_ok k n s
  have h4 := iPlain_ok s hl
  obtain ⟨q, hq⟩ : ∃ q, q = termRight c o k n s := ⟨_, rfl⟩
  rw [← hq]
  rw [termRight, valTerm] at hq
  have hv : ∀ b, b = valueRight k n s → b = true → (k = 0 ∧ n = 0 ∧ s = ⟨⟨[]⟩⟩) ∨ (k = 1 ∧ 0 ≤ n ∧ n ≤ 1 ∧ s = ⟨⟨[]⟩⟩) ∨ (k = 2 ∧ s = ⟨⟨[]⟩⟩) ∨ (k = 3 ∧ n = 0) := fun b e h => valueRight_cases (e ▸ h)
  have h0 : ∀ b, b = valueRight k n s → k = 0 → n = 0 → s = ⟨⟨[]⟩⟩ → b = true := fun b e h1 h2 h3 => by rw [e, h1, valueRight_null]; exact decide_eq_true ⟨h2, h3⟩
  have hp : ∀ b, b = plain s → s = ⟨⟨[]⟩⟩ → b = true := fun b e h => by rw [e, h]; rfl
  obtain ⟨p1, e1⟩ : ∃ q, q = colName c := ⟨_, rfl⟩
  obtain ⟨p2, e2⟩ : ∃ q, q = isOp o := ⟨_, rfl⟩
  obtain ⟨p3, e3⟩ : ∃ q, q = valueRight k n s := ⟨_, rfl⟩
  obtain ⟨p4, e4⟩ : ∃ q, q = plain s := ⟨_, rfl⟩
  have hv := hv p3 e3
  have h0 := h0 p3 e3
  have hp := hp p4 e4
  rw [← e1] at h1 hq
  rw [← e2] at h2 hq
  rw [← e3] at h3 hq
  rw [← e4] at h4 hq
  clear e1 e2 e3 e4
  obtain ⟨M, hM⟩ := mapEx
  try simp only [hM]
  refine go Try.func142 rfl rfl rfl rfl fun pAdd pSub pMul pQuo pRem pAnd pOr pXor pAndNot pShl pShr pNeg pCompl pConv pLt pLe pEq pSlt pSle pSeq pCat pCatOk pSlen pSsub pSat pIadd pIsub pBnot pBeq pImin pImax pLlen pLsub pLapp pLset pLcopy pLenOk pBytes pRep hF Ca hC r hr => ?_
  cbv
  repeat' (first
    | (refine callB hC h1 (fun _ => ?_) (fun _ => ?_) <;> try cbv)
    | (refine callB hC h2 (fun _ => ?_) (fun _ => ?_) <;> try cbv)
    | (refine callB hC h3 (fun _ => ?_) (fun _ => ?_) <;> try cbv)
    | (refine callB hC h4 (fun _ => ?_) (fun _ => ?_) <;> try cbv)
    | (refine brkI (fun _ => ?_) (fun _ => ?_) <;> try cbv))
  all_goals
    refine retB hr (hq.trans ?_)
    clear hC hr hq h1 h2 h3 h4
    have lD : ∀ a b, pLt a b = decide (a < b) := ltD hF
    have eD : ∀ a b, pLe a b = decide (a ≤ b) := leD hF
    have qD : ∀ a b, pEq a b = decide (a = b) := eqD hF
    have sD : ∀ a b, pSeq a b = decide (a = b) := seqD hF
    simp only [lD, eD, qD, sD, decide_eq_true_eq, decide_eq_false_iff_not] at *
    clear lD eD qD sD hF
    grind
end Go.Proofs.Ytcmgkfoppofniaa
