/- Functions of the program, each with what it returns, run by the evaluator; the conditions stand in the theorems. -/
import Derived.Test.YtngnflfjacappaaLGet3
import Derived.Test.YtngnflfjacappaaLRec2
namespace Go.Proofs.Ytngnflfjacappaa
open Go Go.Proofs.YtngnflfjacappaaW Go.Proofs
set_option linter.unusedVariables false
set_option linter.unusedSimpArgs false
set_option maxRecDepth 100000
set_option maxHeartbeats 8000000
/-! Readers of a text, and what is read of a record's bytes. -/
abbrev rdC (t : ByteArray) (a : Int) (b : Bool) : List AC := [.y (yS t), .y (yN a), .y (yB b)]
abbrev aB8 (n : Int) : A := .c (.y (.sc (.int .u8 n)))
def hd1 (t : ByteArray) : Bool := decide (0 < t.size) && decide (prims.sat t 0 = 76)
theorem sFirstT_ok (t : ByteArray) (h : hd1 t = true) (hs : t.size ≤ 20000) : CallOK Try.prog 75 [.io (rdC t 0 false), aB8 76] ⟨.tup [], [rdC t 1 false]⟩ := by
  simp only [hd1, Bool.and_eq_true, decide_eq_true_eq] at h
  obtain ⟨h1, h2⟩ := h
  obtain ⟨c, hc⟩ : ∃ c, c = prims.sat t 0 := ⟨_, rfl⟩
  rw [← hc] at h2
  obtain ⟨M, hM⟩ := mapEx
  try simp only [hM]
  refine go Try.func75 rfl rfl rfl rfl fun pAdd pSub pMul pQuo pRem pAnd pOr pXor pAndNot pShl pShr pNeg pCompl pConv pLt pLe pEq pSlt pSle pSeq pCat pCatOk pSlen pSsub pSat pIadd pIsub pBnot pBeq pImin pImax pLlen pLsub pLapp pLset pLcopy pLenOk pBytes pRep hF Ca hC r hr => ?_
  cbv
  have el : pSlen t = Int.ofNat t.size := slenIs hF t
  rw [el]
  refine brF (mkNle hF (by ((try simp only [Int.ofNat_eq_natCast] at *); omega))) ?_
  try cbv
  refine brT (mkLe hF (by omega)) ?_
  try cbv
  rw [el]
  refine brT (mkLt hF (by ((try simp only [Int.ofNat_eq_natCast] at *); omega))) ?_
  try cbv
  have e1 : pSat t 0 = 76 := by
    rw [hF] at hc
    exact (show pSat t 0 = c from hc.symm).trans h2
  rw [e1]
  refine brT (mkEq hF rfl) ?_
  try cbv
  have e2 : pAdd .i64 0 1 = 1 := addIs hF (by decide) (by decide)
  rw [e2]
  exact hr.symm
theorem sFirstF_ok (t : ByteArray) (h : hd1 t = false) (hs : t.size ≤ 20000) : CallOK Try.prog 75 [.io (rdC t 0 false), aB8 76] ⟨.tup [], [rdC t 0 true]⟩ := by
  simp only [hd1, Bool.and_eq_false_iff, decide_eq_false_iff_not] at h
  obtain ⟨c, hc⟩ : ∃ c, c = prims.sat t 0 := ⟨_, rfl⟩
  rw [← hc] at h
  obtain ⟨M, hM⟩ := mapEx
  try simp only [hM]
  refine go Try.func75 rfl rfl rfl rfl fun pAdd pSub pMul pQuo pRem pAnd pOr pXor pAndNot pShl pShr pNeg pCompl pConv pLt pLe pEq pSlt pSle pSeq pCat pCatOk pSlen pSsub pSat pIadd pIsub pBnot pBeq pImin pImax pLlen pLsub pLapp pLset pLcopy pLenOk pBytes pRep hF Ca hC r hr => ?_
  cbv
  have el : pSlen t = Int.ofNat t.size := slenIs hF t
  have e1 : pSat t 0 = c := by rw [hF] at hc; exact hc.symm
  rw [el]
  refine brkI (fun h0 => ?_) (fun h0 => ?_) <;> try cbv
  · exact hr.symm
  have h0 := leF hF h0
  refine brT (mkLe hF (by omega)) ?_
  try cbv
  rw [el]
  refine brT (mkLt hF (by ((try simp only [Int.ofNat_eq_natCast] at *); omega))) ?_
  try cbv
  rw [e1]
  refine brF (mkNe hF (by ((try simp only [Int.ofNat_eq_natCast] at *); omega))) ?_
  try cbv
  exact hr.symm
theorem sNumT_ok (t : ByteArray) (a n a' : Int) (hs : t.size ≤ 4611686018427387904) (ha : I64 a) (h : getNum t a = (n, a', 0)) : CallOK Try.prog 76 [.io (rdC t a false)] ⟨.c (.y (yN n)), [rdC t a' false]⟩ := by
  have c1 := sGetNum_ok t a (by rw [maxLen_is]; omega) ha
  rw [h] at c1
  clear h
  obtain ⟨M, hM⟩ := mapEx
  try simp only [hM]
  refine go Try.func76 rfl rfl rfl rfl fun pAdd pSub pMul pQuo pRem pAnd pOr pXor pAndNot pShl pShr pNeg pCompl pConv pLt pLe pEq pSlt pSle pSeq pCat pCatOk pSlen pSsub pSat pIadd pIsub pBnot pBeq pImin pImax pLlen pLsub pLapp pLset pLcopy pLenOk pBytes pRep hF Ca hC r hr => ?_
  cbv
  refine callI hC c1 ?_
  cbv
  refine brT (mkEq hF rfl) ?_
  try cbv
  exact hr.symm
theorem sNumF_ok (t : ByteArray) (a : Int) (b : Bool) (hs : t.size ≤ 4611686018427387904) (ha : I64 a) (h : b = true ∨ (getNum t a).2.2 ≠ 0) : CallOK Try.prog 76 [.io (rdC t a b)] ⟨.c (.y (yN 0)), [rdC t a true]⟩ := by
  have c1 := sGetNum_ok t a (by rw [maxLen_is]; omega) ha
  obtain ⟨z, hz⟩ : ∃ z, z = getNum t a := ⟨_, rfl⟩
  rw [← hz] at c1 h
  clear hz
  obtain ⟨n, a', c⟩ := z
  dsimp only at h
  obtain ⟨M, hM⟩ := mapEx
  try simp only [hM]
  refine go Try.func76 rfl rfl rfl rfl fun pAdd pSub pMul pQuo pRem pAnd pOr pXor pAndNot pShl pShr pNeg pCompl pConv pLt pLe pEq pSlt pSle pSeq pCat pCatOk pSlen pSsub pSat pIadd pIsub pBnot pBeq pImin pImax pLlen pLsub pLapp pLset pLcopy pLenOk pBytes pRep hF Ca hC r hr => ?_
  cbv
  refine callI hC c1 ?_
  cases b <;> cbv
  · have h : c ≠ 0 := by rcases h with h | h; · cases h
                         exact h
    refine brF (mkNe hF h) ?_
    try cbv
    exact hr.symm
  · exact hr.symm
theorem sTextT_ok (t : ByteArray) (a : Int) (x : ByteArray) (a' : Int) (hs : t.size ≤ 4611686018427387904) (ha : I64 a) (h : getText t a = (x, a', 0)) : CallOK Try.prog 77 [.io (rdC t a false)] ⟨.c (.y (yS x)), [rdC t a' false]⟩ := by
  have c1 := sGetText_ok t a hs ha
  rw [h] at c1
  clear h
  obtain ⟨M, hM⟩ := mapEx
  try simp only [hM]
  refine go Try.func77 rfl rfl rfl rfl fun pAdd pSub pMul pQuo pRem pAnd pOr pXor pAndNot pShl pShr pNeg pCompl pConv pLt pLe pEq pSlt pSle pSeq pCat pCatOk pSlen pSsub pSat pIadd pIsub pBnot pBeq pImin pImax pLlen pLsub pLapp pLset pLcopy pLenOk pBytes pRep hF Ca hC r hr => ?_
  cbv
  refine callI hC c1 ?_
  cbv
  refine brT (mkEq hF rfl) ?_
  try cbv
  exact hr.symm
theorem sTextF_ok (t : ByteArray) (a : Int) (b : Bool) (hs : t.size ≤ 4611686018427387904) (ha : I64 a) (h : b = true ∨ (getText t a).2.2 ≠ 0) : CallOK Try.prog 77 [.io (rdC t a b)] ⟨.c (.y (yS ⟨⟨[]⟩⟩)), [rdC t a true]⟩ := by
  have c1 := sGetText_ok t a hs ha
  obtain ⟨z, hz⟩ : ∃ z, z = getText t a := ⟨_, rfl⟩
  rw [← hz] at c1 h
  clear hz
  obtain ⟨n, a', c⟩ := z
  dsimp only at h
  obtain ⟨M, hM⟩ := mapEx
  try simp only [hM]
  refine go Try.func77 rfl rfl rfl rfl fun pAdd pSub pMul pQuo pRem pAnd pOr pXor pAndNot pShl pShr pNeg pCompl pConv pLt pLe pEq pSlt pSle pSeq pCat pCatOk pSlen pSsub pSat pIadd pIsub pBnot pBeq pImin pImax pLlen pLsub pLapp pLset pLcopy pLenOk pBytes pRep hF Ca hC r hr => ?_
  cbv
  refine callI hC c1 ?_
  cases b <;> cbv
  · have h : c ≠ 0 := by rcases h with h | h; · cases h
                         exact h
    refine brF (mkNe hF h) ?_
    try cbv
    exact hr.symm
  · exact hr.symm
theorem iRNum_ok (t : ByteArray) (a : Int) (hs : t.size ≤ 4611686018427387904) (ha : I64 a) (b' : Bool) (hb : b' = decide ((numOf t a).2.2 ≠ 0)) : CallOK Try.prog 73 [.io (rdC t a false)] ⟨.c (.y (yN (numOf t a).1)), [rdC t (numOf t a).2.1 b']⟩ := by
  have c1 := num_ok t a (by rw [maxLen_is]; omega) ha
  obtain ⟨z, hz⟩ : ∃ z, z = numOf t a := ⟨_, rfl⟩
  rw [← hz] at c1 hb ⊢
  clear hz
  obtain ⟨n, a', c⟩ := z
  dsimp only at hb ⊢
  obtain ⟨M, hM⟩ := mapEx
  try simp only [hM]
  refine go Try.func73 rfl rfl rfl rfl fun pAdd pSub pMul pQuo pRem pAnd pOr pXor pAndNot pShl pShr pNeg pCompl pConv pLt pLe pEq pSlt pSle pSeq pCat pCatOk pSlen pSsub pSat pIadd pIsub pBnot pBeq pImin pImax pLlen pLsub pLapp pLset pLcopy pLenOk pBytes pRep hF Ca hC r hr => ?_
  cbv
  refine callI hC c1 ?_
  cbv
  refine brkI (fun h => ?_) (fun h => ?_) <;> try cbv
  · have h := eqT hF h
    have e : b' = false := by rw [hb, h]; rfl
    rw [e] at hr
    exact hr.symm
  · have h := eqF hF h
    have e : b' = true := by rw [hb]; exact decide_eq_true h
    rw [e] at hr
    exact hr.symm
theorem iRWord_ok (t : ByteArray) (a : Int) (hs : t.size ≤ 4611686018427387904) (ha : I64 a) (b' : Bool) (hb : b' = decide ((wordOf t a).2.2 ≠ 0)) : CallOK Try.prog 74 [.io (rdC t a false)] ⟨.c (.y (yS (wordOf t a).1)), [rdC t (wordOf t a).2.1 b']⟩ := by
  have c1 := word_ok t a hs ha
  obtain ⟨z, hz⟩ : ∃ z, z = wordOf t a := ⟨_, rfl⟩
  rw [← hz] at c1 hb ⊢
  clear hz
  obtain ⟨n, a', c⟩ := z
  dsimp only at hb ⊢
  obtain ⟨M, hM⟩ := mapEx
  try simp only [hM]
  refine go Try.func74 rfl rfl rfl rfl fun pAdd pSub pMul pQuo pRem pAnd pOr pXor pAndNot pShl pShr pNeg pCompl pConv pLt pLe pEq pSlt pSle pSeq pCat pCatOk pSlen pSsub pSat pIadd pIsub pBnot pBeq pImin pImax pLlen pLsub pLapp pLset pLcopy pLenOk pBytes pRep hF Ca hC r hr => ?_
  cbv
  refine callI hC c1 ?_
  cbv
  refine brkI (fun h => ?_) (fun h => ?_) <;> try cbv
  · have h := eqT hF h
    have e : b' = false := by rw [hb, h]; rfl
    rw [e] at hr
    exact hr.symm
  · have h := eqF hF h
    have e : b' = true := by rw [hb]; exact decide_eq_true h
    rw [e] at hr
    exact hr.symm
end Go.Proofs.Ytngnflfjacappaa
