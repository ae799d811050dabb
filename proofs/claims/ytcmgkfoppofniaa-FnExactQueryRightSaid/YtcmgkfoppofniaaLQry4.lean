/- Functions of the program, each with what it returns, run by the evaluator; the conditions stand in the theorems. -/
import Derived.Test.YtcmgkfoppofniaaLQry3
namespace Go.Proofs.Ytcmgkfoppofniaa
open Go Go.Proofs.YtcmgkfoppofniaaW Go.Proofs
set_option linter.unusedVariables false
set_option linter.unusedSimpArgs false
set_option maxRecDepth 100000
set_option maxHeartbeats 8000000
def itemRight (a : Int) (c : ByteArray) : Bool := if a = 1 then decide (c = ⟨⟨[]⟩⟩) else decide (0 ≤ a) && (decide (a ≤ 4) && colName c)
theorem iItem_ok (a : Int) (c : ByteArray) (hl : c.size ≤ maxLen) : CallOK Try.prog 138 [.agg [.y (yN a), .y (yS c)]] (B (itemRight a c)) := by
  have h1 := iCol_ok c hl
  obtain ⟨q, hq⟩ : ∃ q, q = itemRight a c := ⟨_, rfl⟩
  rw [← hq]
  rw [itemRight] at hq
  obtain ⟨p, hp⟩ : ∃ q, q = colName c := ⟨_, rfl⟩
  rw [← hp] at h1 hq
  clear hp
  obtain ⟨M, hM⟩ := mapEx
  try simp only [hM]
  refine go Try.func138 rfl rfl rfl rfl fun pAdd pSub pMul pQuo pRem pAnd pOr pXor pAndNot pShl pShr pNeg pCompl pConv pLt pLe pEq pSlt pSle pSeq pCat pCatOk pSlen pSsub pSat pIadd pIsub pBnot pBeq pImin pImax pLlen pLsub pLapp pLset pLcopy pLenOk pBytes pRep hF Ca hC r hr => ?_
  cbv
  repeat' (first
    | (refine callB hC h1 (fun _ => ?_) (fun _ => ?_) <;> try cbv)
    | (refine brkI (fun _ => ?_) (fun _ => ?_) <;> try cbv))
  all_goals
    refine retB hr (hq.trans ?_)
    clear hC hr hq h1
    have lD : ∀ a b, pLt a b = decide (a < b) := ltD hF
    have eD : ∀ a b, pLe a b = decide (a ≤ b) := leD hF
    have qD : ∀ a b, pEq a b = decide (a = b) := eqD hF
    have sD : ∀ a b, pSeq a b = decide (a = b) := seqD hF
    simp only [lD, eD, qD, sD, decide_eq_true_eq, decide_eq_false_iff_not] at *
    clear lD eD qD sD hF
    first | grind | (simp_all; done) | (simp_all; omega)
theorem notItem_ok (u : Itm) (hl : u.col.size ≤ maxLen) : CallOK Try.prog 137 [.agg [.y (yN u.agg), .y (yS u.col)]] (B (!itemRight u.agg u.col)) := by
  have hh := iItem_ok u.agg u.col hl
  obtain ⟨q, hq⟩ : ∃ q, q = itemRight u.agg u.col := ⟨_, rfl⟩
  rw [← hq] at hh ⊢
  clear hq
  obtain ⟨M, hM⟩ := mapEx
  try simp only [hM]
  refine go Try.func137 rfl rfl rfl rfl fun pAdd pSub pMul pQuo pRem pAnd pOr pXor pAndNot pShl pShr pNeg pCompl pConv pLt pLe pEq pSlt pSle pSeq pCat pCatOk pSlen pSsub pSat pIadd pIsub pBnot pBeq pImin pImax pLlen pLsub pLapp pLset pLcopy pLenOk pBytes pRep hF Ca hC r hr => ?_
  cbv
  refine callB hC hh (fun h1 => ?_) (fun h1 => ?_) <;> try cbv
  all_goals exact retR hr (by rw [h1]; rfl)
theorem isAgg_ok (u : Itm) : CallOK Try.prog 180 [.agg [.y (yN u.agg), .y (yS u.col)]] (B (!decide (u.agg = 0))) := by
  obtain ⟨q, hq⟩ : ∃ q, q = !decide (u.agg = 0) := ⟨_, rfl⟩
  rw [← hq]
  obtain ⟨M, hM⟩ := mapEx
  try simp only [hM]
  refine go Try.func180 rfl rfl rfl rfl fun pAdd pSub pMul pQuo pRem pAnd pOr pXor pAndNot pShl pShr pNeg pCompl pConv pLt pLe pEq pSlt pSle pSeq pCat pCatOk pSlen pSsub pSat pIadd pIsub pBnot pBeq pImin pImax pLlen pLsub pLapp pLset pLcopy pLenOk pBytes pRep hF Ca hC r hr => ?_
  cbv
  refine brkI (fun h => ?_) (fun h => ?_) <;> try cbv
  · exact retB hr (hq.trans (by rw [decide_eq_true (eqT hF h)]; rfl))
  · exact retB hr (hq.trans (by rw [decide_eq_false (eqF hF h)]; rfl))
theorem notTerm_ok (u : Trm) (h1 : u.col.size ≤ maxLen ∧ u.val.s.size ≤ maxLen) : CallOK Try.prog 141 [.agg [.y (yS u.col), .y (yS u.op), .y (yN u.val.k), .y (yN u.val.n), .y (yS u.val.s)]] (B (!termRight u.col u.op u.val.k u.val.n u.val.s)) := by
  have hh := iTerm_ok u.col u.op u.val.k u.val.n u.val.s h1.1 h1.2
  obtain ⟨q, hq⟩ : ∃ q, q = termRight u.col u.op u.val.k u.val.n u.val.s := ⟨_, rfl⟩
  rw [← hq] at hh ⊢
  clear hq
  obtain ⟨M, hM⟩ := mapEx
  try simp only [hM]
  refine go Try.func141 rfl rfl rfl rfl fun pAdd pSub pMul pQuo pRem pAnd pOr pXor pAndNot pShl pShr pNeg pCompl pConv pLt pLe pEq pSlt pSle pSeq pCat pCatOk pSlen pSsub pSat pIadd pIsub pBnot pBeq pImin pImax pLlen pLsub pLapp pLset pLcopy pLenOk pBytes pRep hF Ca hC r hr => ?_
  cbv
  refine callB hC hh (fun h1 => ?_) (fun h1 => ?_) <;> try cbv
  all_goals exact retR hr (by rw [h1]; rfl)
theorem other_ok (z : Qry) (u : Itm) : CallOK Try.prog 144 [.agg [.y (yN u.agg), .y (yS u.col)], .rp [.sl 2 (z.items.map Itm.row), yS z.table, yS z.join, yS z.lft, yS z.rgt, .sl 5 (z.where_.map Trm.row), yS z.group, yS z.order, yB z.down, yN z.limit]] (B (decide (u.agg = 0) && !decide (u.col = z.group))) := by
  obtain ⟨x, hx⟩ : ∃ x, x = (decide (u.agg = 0) && !decide (u.col = z.group)) := ⟨_, rfl⟩
  rw [← hx]
  obtain ⟨M, hM⟩ := mapEx
  try simp only [hM]
  refine go Try.func144 rfl rfl rfl rfl fun pAdd pSub pMul pQuo pRem pAnd pOr pXor pAndNot pShl pShr pNeg pCompl pConv pLt pLe pEq pSlt pSle pSeq pCat pCatOk pSlen pSsub pSat pIadd pIsub pBnot pBeq pImin pImax pLlen pLsub pLapp pLset pLcopy pLenOk pBytes pRep hF Ca hC r hr => ?_
  cbv
  repeat' (refine brkI (fun _ => ?_) (fun _ => ?_) <;> try cbv)
  all_goals
    refine retB hr (hx.trans ?_)
    clear hC hr hx
    have lD : ∀ a b, pLt a b = decide (a < b) := ltD hF
    have eD : ∀ a b, pLe a b = decide (a ≤ b) := leD hF
    have qD : ∀ a b, pEq a b = decide (a = b) := eqD hF
    have sD : ∀ a b, pSeq a b = decide (a = b) := seqD hF
    simp only [lD, eD, qD, sD, decide_eq_true_eq, decide_eq_false_iff_not] at *
    clear lD eD qD sD hF
    grind
theorem notItem_ix (l : List Itm) (hl : l.length ≤ maxLen) (hb : ∀ u ∈ l, u.col.size ≤ maxLen) : CallOK Try.prog 175 [.c (.y (.sl 2 (l.map Itm.row))), .c (.y (.sc (.func (.func 137) ⟨[]⟩ ⟨[]⟩)))] (N (firstTo (fun i => (fun u => !itemRight u.agg u.col) (l.getD i default)) l.length)) := by
  rw [maxLen_is] at hl
  obtain ⟨q, hq⟩ : ∃ q, q = firstTo (fun i => (fun u => !itemRight u.agg u.col) (l.getD i default)) l.length := ⟨_, rfl⟩
  obtain ⟨xs, hx⟩ : ∃ xs, xs = l.map Itm.row := ⟨_, rfl⟩
  have hxl : xs.length = l.length := by rw [hx, List.length_map]
  rw [← hq, ← hx]
  obtain ⟨M, hM⟩ := mapEx
  try simp only [hM]
  refine go Try.func175 rfl rfl rfl rfl fun pAdd pSub pMul pQuo pRem pAnd pOr pXor pAndNot pShl pShr pNeg pCompl pConv pLt pLe pEq pSlt pSle pSeq pCat pCatOk pSlen pSsub pSat pIadd pIsub pBnot pBeq pImin pImax pLlen pLsub pLapp pLset pLcopy pLenOk pBytes pRep hF Ca hC r hr => ?_
  cbv
  refine loop_all (fun a st => st.n 8 (Int.ofNat a)) (fun i => !(fun u => !itemRight u.agg u.col) (l.getD i default)) l.length rfl (fun K' hK I i hi hp ih => ?_)
  cbv
  refine brkI (fun h => ?_) (fun h => ?_) <;> try cbv
  · have hs : i < l.length := hxl ▸ iltT hF h
    have e1 : pAdd .i64 (Int.ofNat i) 1 = Int.ofNat (i + 1) := add1Is hF (by omega)
    refine lgetM (fun u => [yN u.agg, yS u.col]) (fun u => by simp only [Itm.row, hM]) hx hs fun u hu => ?_
    cbv
    have hu' : l.getD i default = u := getD_of hs hu
    refine callB hC (by have hh := notItem_ok u (hu ▸ hb _ (List.getElem_mem hs)); (try simp only [hM] at hh); exact hh) (fun h1 => ?_) (fun h1 => ?_) <;> try cbv
    · refine hK _ _ ?_
      cbv
      refine retN hr (hq.trans (firstTo_at hs (by rw [hu']; exact h1) fun j hj => ?_))
      exact (Bool.not_eq_true' _).mp (hp j hj)
    · conv => arg 1; cbv
      rw [e1]
      exact ih _ hs (by rw [hu', Bool.not_eq_true']; exact h1) rfl
  · have hs : i = l.length := Nat.le_antisymm hi (hxl ▸ iltF hF h)
    subst hs
    refine hK _ _ ?_
    cbv
    refine retN hr (hq.trans (firstTo_none fun j hj => ?_))
    exact (Bool.not_eq_true' _).mp (hp j hj)
theorem notItem_cf (l : List Itm) (hl : l.length ≤ maxLen) (hb : ∀ u ∈ l, u.col.size ≤ maxLen) : CallOK Try.prog 136 [.c (.y (.sl 2 (l.map Itm.row))), .c (.y (.sc (.func (.func 137) ⟨[]⟩ ⟨[]⟩)))] (B (!allTo (fun i => !(fun u => !itemRight u.agg u.col) (l.getD i default)) l.length)) := by
  have hc := notItem_ix l hl hb
  have hh := hasTo_is (fun i => (fun u => !itemRight u.agg u.col) (l.getD i default)) l.length
  rw [← hh]
  obtain ⟨q, hq⟩ : ∃ q, q = firstTo (fun i => (fun u => !itemRight u.agg u.col) (l.getD i default)) l.length := ⟨_, rfl⟩
  rw [← hq] at hc ⊢
  clear hq hh
  obtain ⟨M, hM⟩ := mapEx
  try simp only [hM]
  refine go Try.func136 rfl rfl rfl rfl fun pAdd pSub pMul pQuo pRem pAnd pOr pXor pAndNot pShl pShr pNeg pCompl pConv pLt pLe pEq pSlt pSle pSeq pCat pCatOk pSlen pSsub pSat pIadd pIsub pBnot pBeq pImin pImax pLlen pLsub pLapp pLset pLcopy pLenOk pBytes pRep hF Ca hC r hr => ?_
  cbv
  refine callN hC (by have hh := hc; (try simp only [hM] at hh); exact hh) (fun m hm => ?_)
  cbv
  refine brkI (fun h1 => ?_) (fun h1 => ?_) <;> try cbv
  all_goals exact retR hr (by rw [← hm, ← leD hF 0 m]; exact h1.symm)

theorem isAgg_ix (l : List Itm) (hl : l.length ≤ maxLen) : CallOK Try.prog 175 [.c (.y (.sl 2 (l.map Itm.row))), .c (.y (.sc (.func (.func 180) ⟨[]⟩ ⟨[]⟩)))] (N (firstTo (fun i => (fun u => !decide (u.agg = 0)) (l.getD i default)) l.length)) := by
  rw [maxLen_is] at hl
  obtain ⟨q, hq⟩ : ∃ q, q = firstTo (fun i => (fun u => !decide (u.agg = 0)) (l.getD i default)) l.length := ⟨_, rfl⟩
  obtain ⟨xs, hx⟩ : ∃ xs, xs = l.map Itm.row := ⟨_, rfl⟩
  have hxl : xs.length = l.length := by rw [hx, List.length_map]
  rw [← hq, ← hx]
  obtain ⟨M, hM⟩ := mapEx
  try simp only [hM]
  refine go Try.func175 rfl rfl rfl rfl fun pAdd pSub pMul pQuo pRem pAnd pOr pXor pAndNot pShl pShr pNeg pCompl pConv pLt pLe pEq pSlt pSle pSeq pCat pCatOk pSlen pSsub pSat pIadd pIsub pBnot pBeq pImin pImax pLlen pLsub pLapp pLset pLcopy pLenOk pBytes pRep hF Ca hC r hr => ?_
  cbv
  refine loop_all (fun a st => st.n 8 (Int.ofNat a)) (fun i => !(fun u => !decide (u.agg = 0)) (l.getD i default)) l.length rfl (fun K' hK I i hi hp ih => ?_)
  cbv
  refine brkI (fun h => ?_) (fun h => ?_) <;> try cbv
  · have hs : i < l.length := hxl ▸ iltT hF h
    have e1 : pAdd .i64 (Int.ofNat i) 1 = Int.ofNat (i + 1) := add1Is hF (by omega)
    refine lgetM (fun u => [yN u.agg, yS u.col]) (fun u => by simp only [Itm.row, hM]) hx hs fun u hu => ?_
    cbv
    have hu' : l.getD i default = u := getD_of hs hu
    refine callB hC (by have hh := isAgg_ok u; (try simp only [hM] at hh); exact hh) (fun h1 => ?_) (fun h1 => ?_) <;> try cbv
    · refine hK _ _ ?_
      cbv
      refine retN hr (hq.trans (firstTo_at hs (by rw [hu']; exact h1) fun j hj => ?_))
      exact (Bool.not_eq_true' _).mp (hp j hj)
    · conv => arg 1; cbv
      rw [e1]
      exact ih _ hs (by rw [hu', Bool.not_eq_true']; exact h1) rfl
  · have hs : i = l.length := Nat.le_antisymm hi (hxl ▸ iltF hF h)
    subst hs
    refine hK _ _ ?_
    cbv
    refine retN hr (hq.trans (firstTo_none fun j hj => ?_))
    exact (Bool.not_eq_true' _).mp (hp j hj)
theorem isAgg_cf (l : List Itm) (hl : l.length ≤ maxLen) : CallOK Try.prog 136 [.c (.y (.sl 2 (l.map Itm.row))), .c (.y (.sc (.func (.func 180) ⟨[]⟩ ⟨[]⟩)))] (B (!allTo (fun i => !(fun u => !decide (u.agg = 0)) (l.getD i default)) l.length)) := by
  have hc := isAgg_ix l hl
  have hh := hasTo_is (fun i => (fun u => !decide (u.agg = 0)) (l.getD i default)) l.length
  rw [← hh]
  obtain ⟨q, hq⟩ : ∃ q, q = firstTo (fun i => (fun u => !decide (u.agg = 0)) (l.getD i default)) l.length := ⟨_, rfl⟩
  rw [← hq] at hc ⊢
  clear hq hh
  obtain ⟨M, hM⟩ := mapEx
  try simp only [hM]
  refine go Try.func136 rfl rfl rfl rfl fun pAdd pSub pMul pQuo pRem pAnd pOr pXor pAndNot pShl pShr pNeg pCompl pConv pLt pLe pEq pSlt pSle pSeq pCat pCatOk pSlen pSsub pSat pIadd pIsub pBnot pBeq pImin pImax pLlen pLsub pLapp pLset pLcopy pLenOk pBytes pRep hF Ca hC r hr => ?_
  cbv
  refine callN hC (by have hh := hc; (try simp only [hM] at hh); exact hh) (fun m hm => ?_)
  cbv
  refine brkI (fun h1 => ?_) (fun h1 => ?_) <;> try cbv
  all_goals exact retR hr (by rw [← hm, ← leD hF 0 m]; exact h1.symm)

theorem notTerm_ix (l : List Trm) (hl : l.length ≤ maxLen) (hb : ∀ u ∈ l, u.col.size ≤ maxLen ∧ u.val.s.size ≤ maxLen) : CallOK Try.prog 177 [.c (.y (.sl 5 (l.map Trm.row))), .c (.y (.sc (.func (.func 141) ⟨[]⟩ ⟨[]⟩)))] (N (firstTo (fun i => (fun u => !termRight u.col u.op u.val.k u.val.n u.val.s) (l.getD i default)) l.length)) := by
  rw [maxLen_is] at hl
  obtain ⟨q, hq⟩ : ∃ q, q = firstTo (fun i => (fun u => !termRight u.col u.op u.val.k u.val.n u.val.s) (l.getD i default)) l.length := ⟨_, rfl⟩
  obtain ⟨xs, hx⟩ : ∃ xs, xs = l.map Trm.row := ⟨_, rfl⟩
  have hxl : xs.length = l.length := by rw [hx, List.length_map]
  rw [← hq, ← hx]
  obtain ⟨M, hM⟩ := mapEx
  try simp only [hM]
  refine go Try.func177 rfl rfl rfl rfl fun pAdd pSub pMul pQuo pRem pAnd pOr pXor pAndNot pShl pShr pNeg pCompl pConv pLt pLe pEq pSlt pSle pSeq pCat pCatOk pSlen pSsub pSat pIadd pIsub pBnot pBeq pImin pImax pLlen pLsub pLapp pLset pLcopy pLenOk pBytes pRep hF Ca hC r hr => ?_
  cbv
  refine loop_all (fun a st => st.n 8 (Int.ofNat a)) (fun i => !(fun u => !termRight u.col u.op u.val.k u.val.n u.val.s) (l.getD i default)) l.length rfl (fun K' hK I i hi hp ih => ?_)
  cbv
  refine brkI (fun h => ?_) (fun h => ?_) <;> try cbv
  · have hs : i < l.length := hxl ▸ iltT hF h
    have e1 : pAdd .i64 (Int.ofNat i) 1 = Int.ofNat (i + 1) := add1Is hF (by omega)
    refine lgetM (fun u => [yS u.col, yS u.op, yN u.val.k, yN u.val.n, yS u.val.s]) (fun u => by simp only [Trm.row, hM]) hx hs fun u hu => ?_
    cbv
    have hu' : l.getD i default = u := getD_of hs hu
    refine callB hC (by have hh := notTerm_ok u (hu ▸ hb _ (List.getElem_mem hs)); (try simp only [hM] at hh); exact hh) (fun h1 => ?_) (fun h1 => ?_) <;> try cbv
    · refine hK _ _ ?_
      cbv
      refine retN hr (hq.trans (firstTo_at hs (by rw [hu']; exact h1) fun j hj => ?_))
      exact (Bool.not_eq_true' _).mp (hp j hj)
    · conv => arg 1; cbv
      rw [e1]
      exact ih _ hs (by rw [hu', Bool.not_eq_true']; exact h1) rfl
  · have hs : i = l.length := Nat.le_antisymm hi (hxl ▸ iltF hF h)
    subst hs
    refine hK _ _ ?_
    cbv
    refine retN hr (hq.trans (firstTo_none fun j hj => ?_))
    exact (Bool.not_eq_true' _).mp (hp j hj)
theorem notTerm_cf (l : List Trm) (hl : l.length ≤ maxLen) (hb : ∀ u ∈ l, u.col.size ≤ maxLen ∧ u.val.s.size ≤ maxLen) : CallOK Try.prog 140 [.c (.y (.sl 5 (l.map Trm.row))), .c (.y (.sc (.func (.func 141) ⟨[]⟩ ⟨[]⟩)))] (B (!allTo (fun i => !(fun u => !termRight u.col u.op u.val.k u.val.n u.val.s) (l.getD i default)) l.length)) := by
  have hc := notTerm_ix l hl hb
  have hh := hasTo_is (fun i => (fun u => !termRight u.col u.op u.val.k u.val.n u.val.s) (l.getD i default)) l.length
  rw [← hh]
  obtain ⟨q, hq⟩ : ∃ q, q = firstTo (fun i => (fun u => !termRight u.col u.op u.val.k u.val.n u.val.s) (l.getD i default)) l.length := ⟨_, rfl⟩
  rw [← hq] at hc ⊢
  clear hq hh
  obtain ⟨M, hM⟩ := mapEx
  try simp only [hM]
  refine go Try.func140 rfl rfl rfl rfl fun pAdd pSub pMul pQuo pRem pAnd pOr pXor pAndNot pShl pShr pNeg pCompl pConv pLt pLe pEq pSlt pSle pSeq pCat pCatOk pSlen pSsub pSat pIadd pIsub pBnot pBeq pImin pImax pLlen pLsub pLapp pLset pLcopy pLenOk pBytes pRep hF Ca hC r hr => ?_
  cbv
  refine callN hC (by have hh := hc; (try simp only [hM] at hh); exact hh) (fun m hm => ?_)
  cbv
  refine brkI (fun h1 => ?_) (fun h1 => ?_) <;> try cbv
  all_goals exact retR hr (by rw [← hm, ← leD hF 0 m]; exact h1.symm)

theorem other_ix (z : Qry) (l : List Itm) (hl : l.length ≤ maxLen) : CallOK Try.prog 175 [.c (.y (.sl 2 (l.map Itm.row))), .fv 144 [[.sl 2 (z.items.map Itm.row), yS z.table, yS z.join, yS z.lft, yS z.rgt, .sl 5 (z.where_.map Trm.row), yS z.group, yS z.order, yB z.down, yN z.limit]]] (N (firstTo (fun i => (fun u => decide (u.agg = 0) && !decide (u.col = z.group)) (l.getD i default)) l.length)) := by
  rw [maxLen_is] at hl
  obtain ⟨q, hq⟩ : ∃ q, q = firstTo (fun i => (fun u => decide (u.agg = 0) && !decide (u.col = z.group)) (l.getD i default)) l.length := ⟨_, rfl⟩
  obtain ⟨xs, hx⟩ : ∃ xs, xs = l.map Itm.row := ⟨_, rfl⟩
  have hxl : xs.length = l.length := by rw [hx, List.length_map]
  rw [← hq, ← hx]
  obtain ⟨M, hM⟩ := mapEx
  try simp only [hM]
  refine go Try.func175 rfl rfl rfl rfl fun pAdd pSub pMul pQuo pRem pAnd pOr pXor pAndNot pShl pShr pNeg pCompl pConv pLt pLe pEq pSlt pSle pSeq pCat pCatOk pSlen pSsub pSat pIadd pIsub pBnot pBeq pImin pImax pLlen pLsub pLapp pLset pLcopy pLenOk pBytes pRep hF Ca hC r hr => ?_
  cbv
  refine loop_all (fun a st => st.n 8 (Int.ofNat a)) (fun i => !(fun u => decide (u.agg = 0) && !decide (u.col = z.group)) (l.getD i default)) l.length rfl (fun K' hK I i hi hp ih => ?_)
  cbv
  refine brkI (fun h => ?_) (fun h => ?_) <;> try cbv
  · have hs : i < l.length := hxl ▸ iltT hF h
    have e1 : pAdd .i64 (Int.ofNat i) 1 = Int.ofNat (i + 1) := add1Is hF (by omega)
    refine lgetM (fun u => [yN u.agg, yS u.col]) (fun u => by simp only [Itm.row, hM]) hx hs fun u hu => ?_
    cbv
    have hu' : l.getD i default = u := getD_of hs hu
    refine callB hC (by have hh := other_ok z u; (try simp only [hM] at hh); exact hh) (fun h1 => ?_) (fun h1 => ?_) <;> try cbv
    · refine hK _ _ ?_
      cbv
      refine retN hr (hq.trans (firstTo_at hs (by rw [hu']; exact h1) fun j hj => ?_))
      exact (Bool.not_eq_true' _).mp (hp j hj)
    · conv => arg 1; cbv
      rw [e1]
      exact ih _ hs (by rw [hu', Bool.not_eq_true']; exact h1) rfl
  · have hs : i = l.length := Nat.le_antisymm hi (hxl ▸ iltF hF h)
    subst hs
    refine hK _ _ ?_
    cbv
    refine retN hr (hq.trans (firstTo_none fun j hj => ?_))
    exact (Bool.not_eq_true' _).mp (hp j hj)
theorem other_cf (z : Qry) (l : List Itm) (hl : l.length ≤ maxLen) : CallOK Try.prog 136 [.c (.y (.sl 2 (l.map Itm.row))), .fv 144 [[.sl 2 (z.items.map Itm.row), yS z.table, yS z.join, yS z.lft, yS z.rgt, .sl 5 (z.where_.map Trm.row), yS z.group, yS z.order, yB z.down, yN z.limit]]] (B (!allTo (fun i => !(fun u => decide (u.agg = 0) && !decide (u.col = z.group)) (l.getD i default)) l.length)) := by
  have hc := other_ix z l hl
  have hh := hasTo_is (fun i => (fun u => decide (u.agg = 0) && !decide (u.col = z.group)) (l.getD i default)) l.length
  rw [← hh]
  obtain ⟨q, hq⟩ : ∃ q, q = firstTo (fun i => (fun u => decide (u.agg = 0) && !decide (u.col = z.group)) (l.getD i default)) l.length := ⟨_, rfl⟩
  rw [← hq] at hc ⊢
  clear hq hh
  obtain ⟨M, hM⟩ := mapEx
  try simp only [hM]
  refine go Try.func136 rfl rfl rfl rfl fun pAdd pSub pMul pQuo pRem pAnd pOr pXor pAndNot pShl pShr pNeg pCompl pConv pLt pLe pEq pSlt pSle pSeq pCat pCatOk pSlen pSsub pSat pIadd pIsub pBnot pBeq pImin pImax pLlen pLsub pLapp pLset pLcopy pLenOk pBytes pRep hF Ca hC r hr => ?_
  cbv
  refine callN hC (by have hh := hc; (try simp only [hM] at hh); exact hh) (fun m hm => ?_)
  cbv
  refine brkI (fun h1 => ?_) (fun h1 => ?_) <;> try cbv
  all_goals exact retR hr (by rw [← hm, ← leD hF 0 m]; exact h1.symm)

end Go.Proofs.Ytcmgkfoppofniaa
