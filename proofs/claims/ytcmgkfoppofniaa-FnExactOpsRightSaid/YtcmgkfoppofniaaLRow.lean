/- Functions of the program, each with what it returns, run by the evaluator; the conditions stand in the theorems. -/
import Derived.Test.YtcmgkfoppofniaaLSch2
import Derived.Test.YtcmgkfoppofniaaLVal
namespace Go.Proofs.Ytcmgkfoppofniaa
open Go Go.Proofs.YtcmgkfoppofniaaW Go.Proofs
set_option linter.unusedVariables false
set_option linter.unusedSimpArgs false
set_option maxRecDepth 100000
set_option maxHeartbeats 8000000
def rowRight (s : Sch) (row : List Val) : Bool := schRight s && rowOk s row
theorem schRight_cols {s : Sch} (h : schRight s = true) : 1 ≤ s.cols.length ∧ s.cols.length ≤ 10 := by
  simp only [schRight, schHead, Bool.and_eq_true, decide_eq_true_eq] at h
  omega
theorem rowOk_eq {s : Sch} {row : List Val} (h : rowOk s row = true) : row.length = s.cols.length := by
  simp only [rowOk, Bool.and_eq_true, decide_eq_true_eq] at h
  exact h.1
theorem rowRight_long {s : Sch} {row : List Val} (h : 400 < row.length) : rowRight s row = false := by
  rw [rowRight]
  cases h1 : schRight s with
  | false => rfl
  | true =>
    cases h2 : rowOk s row with
    | false => rfl
    | true => have := schRight_cols h1; have := rowOk_eq h2; omega
theorem sRowRight_ok (s : Sch) (row : List Val) (hm : Sch.Bd maxLen s) (hl : row.length ≤ maxLen) : CallOK Try.prog 55 [.agg [.y (yS s.name), .y (.sl 3 (s.cols.map Col.row)), .y (.sl 1 (s.key.map rowI)), .y (.sl 2 (s.idx.map Idx.row))], .c (.y (.sl 3 (row.map Val.row)))] (B (rowRight s row)) := by
  have c1 := sSchemaRight_ok s hm
  have c2 := sRow_ok s row hl
  obtain ⟨q, hq⟩ : ∃ q, q = rowRight s row := ⟨_, rfl⟩
  obtain ⟨xs, hx⟩ : ∃ xs, xs = row.map Val.row := ⟨_, rfl⟩
  have hxl : xs.length = row.length := by rw [hx, List.length_map]
  rw [← hq, ← hx]
  rw [← hx] at c2
  obtain ⟨M, hM⟩ := mapEx
  try simp only [hM]
  refine go Try.func55 rfl rfl rfl rfl fun pAdd pSub pMul pQuo pRem pAnd pOr pXor pAndNot pShl pShr pNeg pCompl pConv pLt pLe pEq pSlt pSle pSeq pCat pCatOk pSlen pSsub pSat pIadd pIsub pBnot pBeq pImin pImax pLlen pLsub pLapp pLset pLcopy pLenOk pBytes pRep hF Ca hC r hr => ?_
  cbv
  refine brkI (fun h => ?_) (fun h => ?_) <;> try cbv
  · refine callB hC (by have hh := c1; (try simp only [hM] at hh); exact hh) (fun h1 => ?_) (fun h1 => ?_) <;> try cbv
    · refine callB hC (by have hh := c2; (try simp only [hM] at hh); exact hh) (fun h2 => ?_) (fun h2 => ?_) <;> try cbv
      all_goals exact retB hr (hq.trans (by rw [rowRight, h1, h2]; rfl))
    · exact retB hr (hq.trans (by rw [rowRight, h1]; rfl))
  · have := leF hF h
    rw [show pLlen xs = Int.ofNat xs.length from llenIs hF xs, hxl] at this
    exact retB hr (hq.trans (rowRight_long (by ((try simp only [Int.ofNat_eq_natCast] at *); omega))))
theorem iRowRight_ok (s : Sch) (row : List Val) (hm : Sch.Bd maxLen s) (hl : row.length ≤ maxLen) : CallOK Try.prog 56 [.agg [.y (yS s.name), .y (.sl 3 (s.cols.map Col.row)), .y (.sl 1 (s.key.map rowI)), .y (.sl 2 (s.idx.map Idx.row))], .c (.y (.sl 3 (row.map Val.row)))] (B (rowRight s row)) := by
  have c1 := iSchemaRight_ok s hm
  have c2 := iRow_ok s row hl
  obtain ⟨q, hq⟩ : ∃ q, q = rowRight s row := ⟨_, rfl⟩
  obtain ⟨xs, hx⟩ : ∃ xs, xs = row.map Val.row := ⟨_, rfl⟩
  rw [← hq, ← hx]
  rw [← hx] at c2
  obtain ⟨M, hM⟩ := mapEx
  try simp only [hM]
  refine go Try.func56 rfl rfl rfl rfl fun pAdd pSub pMul pQuo pRem pAnd pOr pXor pAndNot pShl pShr pNeg pCompl pConv pLt pLe pEq pSlt pSle pSeq pCat pCatOk pSlen pSsub pSat pIadd pIsub pBnot pBeq pImin pImax pLlen pLsub pLapp pLset pLcopy pLenOk pBytes pRep hF Ca hC r hr => ?_
  cbv
  refine callB hC (by have hh := c1; (try simp only [hM] at hh); exact hh) (fun h1 => ?_) (fun h1 => ?_) <;> try cbv
  · refine callB hC (by have hh := c2; (try simp only [hM] at hh); exact hh) (fun h2 => ?_) (fun h2 => ?_) <;> try cbv
    all_goals exact retB hr (hq.trans (by rw [rowRight, h1, h2]; rfl))
  · exact retB hr (hq.trans (by rw [rowRight, h1]; rfl))
end Go.Proofs.Ytcmgkfoppofniaa
