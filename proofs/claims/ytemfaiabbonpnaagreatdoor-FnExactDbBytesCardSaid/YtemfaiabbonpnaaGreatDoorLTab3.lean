/- Functions of the program, each with what it returns, run by the evaluator; the conditions stand in the theorems. -/
import Derived.Test.YtemfaiabbonpnaaGreatDoorLTab2
namespace Go.Proofs.YtemfaiabbonpnaaGreatDoor
open Go Go.Proofs.YtemfaiabbonpnaaGreatDoorW Go.Proofs
set_option linter.unusedVariables false
set_option linter.unusedSimpArgs false
set_option maxRecDepth 100000
set_option maxHeartbeats 8000000
theorem toList_nil {s : ByteArray} (h : s.toList = []) : s = ⟨⟨[]⟩⟩ := toList_inj.1 (by rw [h, ByteArray.toList_eq])
theorem right_null {v : Val} (h : v.right = true) : v.k = 0 ↔ v.cmp zeroV = 0 := by
  rw [cmp_zero]
  obtain ⟨k, n, s⟩ := v
  constructor
  · intro e
    have e : k = 0 := e
    subst e
    rw [Val.right, valueRight, if_pos rfl, Bool.and_eq_true, decide_eq_true_eq, decide_eq_true_eq] at h
    have h1 : n = 0 := h.1
    have h2 : s = ⟨⟨[]⟩⟩ := toList_nil h.2
    rw [h1, h2]; rfl
  · intro e; rw [e]; rfl
def Rights (l : List Val) : Prop := ∀ v ∈ l, v.right = true
theorem rights_of {s : Sch} {row : List Val} (h : rowOk s row = true) : Rights row := by
  intro v hv
  obtain ⟨i, hi, rfl⟩ := List.mem_iff_getElem.1 hv
  rw [rowOk, Bool.and_eq_true] at h
  have := allTo_iff.1 h.2 i hi
  rw [cellAt, getD_at hi, Bool.and_eq_true] at this
  exact this.1
theorem pickTo_mem {row : List Val} {cols : List Int} (hp : ∀ j, j < cols.length → placeAt row cols j = true) : ∀ n, n ≤ cols.length → ∀ v ∈ pickTo row cols n, v ∈ row
  | 0, _, v, hv => by simp [pickTo] at hv
  | n + 1, hn, v, hv => by
    rw [pickTo, List.mem_append] at hv
    rcases hv with hv | hv
    · exact pickTo_mem hp n (by omega) v hv
    · rw [List.mem_singleton] at hv
      have := placeAt_is (hp n (by omega))
      have hlt : (cols.getD n 0).toNat < row.length := by ((try simp only [Int.ofNat_eq_natCast] at *); omega)
      rw [hv, getD_at hlt]
      exact List.getElem_mem hlt
theorem hasNull_is {l : List Val} (h : Rights l) : (!allTo (fun i => !decide ((l.getD i default).cmp zeroV = 0)) l.length) = hasNull l := by
  rw [hasNull]
  congr 1
  refine allTo_congr fun i hi => ?_
  congr 1
  rw [Bool.eq_iff_iff, decide_eq_true_iff, decide_eq_true_iff]
  rw [getD_at hi]
  exact (right_null (h _ (List.getElem_mem hi))).symm
theorem clash1_ok (a b : List Val) (u : Idx) (hu : u.cols.length ≤ 1048576 ∧ (∀ j, j < u.cols.length → placeAt a u.cols j = true) ∧ (∀ j, j < u.cols.length → placeAt b u.cols j = true)) (ra : Rights a) :
    CallOK Tryz.prog 128 [.agg [.y (.sl 1 (u.cols.map rowI)), .y (yB u.uniq)], .rp [.sl 3 (a.map Val.row)], .rp [.sl 3 (b.map Val.row)]] (B (u.uniq && !hasNull (pk a u.cols) && decide (cmpLs (pk a u.cols) (pk b u.cols) = 0))) := by
  have c1 := ipick_ok a u.cols hu.1 hu.2.1
  have c2 := ipick_ok b u.cols hu.1 hu.2.2
  have pl : (pk a u.cols).length = u.cols.length := pickTo_len ..
  have pl2 : (pk b u.cols).length = u.cols.length := pickTo_len ..
  have rp : Rights (pk a u.cols) := fun v hv => ra v (pickTo_mem hu.2.1 _ (Nat.le_refl _) v hv)
  have c3 := containsVal_ok (pk a u.cols) zeroV (by rw [pl]; exact hu.1)
  rw [hasNull_is rp] at c3
  have c4 := equalVal_ok (pk a u.cols) (pk b u.cols) (by rw [pl]; exact hu.1) (by rw [pl2]; exact hu.1)
  rw [show pickTo a u.cols u.cols.length = pk a u.cols from rfl] at c1
  rw [show pickTo b u.cols u.cols.length = pk b u.cols from rfl] at c2
  obtain ⟨A', hA'⟩ : ∃ x, x = pk a u.cols := ⟨_, rfl⟩
  obtain ⟨B', hB'⟩ : ∃ x, x = pk b u.cols := ⟨_, rfl⟩
  rw [← hA'] at c1 c3 c4 ⊢
  rw [← hB'] at c2 c4 ⊢
  obtain ⟨nl, hnl⟩ : ∃ x, x = hasNull A' := ⟨_, rfl⟩
  obtain ⟨eq, heq⟩ : ∃ x, x = decide (cmpLs A' B' = 0) := ⟨_, rfl⟩
  rw [← hnl] at c3 ⊢
  rw [← heq] at c4 ⊢
  obtain ⟨un, hun⟩ : ∃ x, x = u.uniq := ⟨_, rfl⟩
  rw [← hun]
  obtain ⟨q, hq⟩ : ∃ x, x = (un && !nl && eq) := ⟨_, rfl⟩
  rw [← hq]
  obtain ⟨M, hM⟩ := mapEx
  try simp only [hM]
  refine go Tryz.func128 rfl rfl rfl rfl fun pAdd pSub pMul pQuo pRem pAnd pOr pXor pAndNot pShl pShr pNeg pCompl pConv pLt pLe pEq pSlt pSle pSeq pCat pCatOk pSlen pSsub pSat pIadd pIsub pBnot pBeq pImin pImax pLlen pLsub pLapp pLset pLcopy pLenOk pBytes pRep hF Ca hC r hr => ?_
  cbv
  refine callI hC (by have hh := c1; (try simp only [hM] at hh); exact hh) ?_
  cbv
  cases un with
  | false =>
    cbv
    exact retB hr hq
  | true =>
    cbv
    refine callB hC (by have hh := c3; (try simp only [hM] at hh); exact hh) (fun h => ?_) (fun h => ?_) <;> try cbv
    · exact retB hr (by rw [hq, h]; rfl)
    · refine callI hC (by have hh := c2; (try simp only [hM] at hh); exact hh) ?_
      cbv
      refine callB hC (by have hh := c4; (try simp only [hM] at hh); exact hh) (fun h2 => ?_) (fun h2 => ?_) <;> try cbv
      all_goals exact retB hr (by rw [hq, h, h2]; rfl)
theorem clashI_ix (a b : List Val) (l : List Idx) (hl : l.length ≤ maxLen)(ra : Rights a) (hb : ∀ u ∈ l, u.cols.length ≤ 1048576 ∧ (∀ j, j < u.cols.length → placeAt a u.cols j = true) ∧ (∀ j, j < u.cols.length → placeAt b u.cols j = true)) : CallOK Tryz.prog 114 [.c (.y (.sl 2 (l.map Idx.row))), .fv 128 [[.sl 3 (a.map Val.row)], [.sl 3 (b.map Val.row)]]] (N (firstTo (fun i => (fun u => (u.uniq && !hasNull (pk a u.cols) && decide (cmpLs (pk a u.cols) (pk b u.cols) = 0))) (l.getD i default)) l.length)) := by
  rw [maxLen_is] at hl
  obtain ⟨q, hq⟩ : ∃ q, q = firstTo (fun i => (fun u => (u.uniq && !hasNull (pk a u.cols) && decide (cmpLs (pk a u.cols) (pk b u.cols) = 0))) (l.getD i default)) l.length := ⟨_, rfl⟩
  obtain ⟨xs, hx⟩ : ∃ xs, xs = l.map Idx.row := ⟨_, rfl⟩
  have hxl : xs.length = l.length := by rw [hx, List.length_map]
  rw [← hq, ← hx]
  obtain ⟨M, hM⟩ := mapEx
  try simp only [hM]
  refine go Tryz.func114 rfl rfl rfl rfl fun pAdd pSub pMul pQuo pRem pAnd pOr pXor pAndNot pShl pShr pNeg pCompl pConv pLt pLe pEq pSlt pSle pSeq pCat pCatOk pSlen pSsub pSat pIadd pIsub pBnot pBeq pImin pImax pLlen pLsub pLapp pLset pLcopy pLenOk pBytes pRep hF Ca hC r hr => ?_
  cbv
  refine loop_all (fun a st => st.n 8 (Int.ofNat a)) (fun i => !(fun u => (u.uniq && !hasNull (pk a u.cols) && decide (cmpLs (pk a u.cols) (pk b u.cols) = 0))) (l.getD i default)) l.length rfl (fun K' hK I i hi hp ih => ?_)
  cbv
  refine brkI (fun h => ?_) (fun h => ?_) <;> try cbv
  · have hs : i < l.length := hxl ▸ iltT hF h
    have e1 : pAdd .i64 (Int.ofNat i) 1 = Int.ofNat (i + 1) := add1Is hF (by omega)
    refine lgetM (fun u => [.sl 1 (M rowI u.cols), yB u.uniq]) (fun u => by simp only [Idx.row, hM]) hx hs fun u hu => ?_
    cbv
    have hu' : l.getD i default = u := getD_of hs hu
    refine callB hC (by have hh := clash1_ok a b u (hu ▸ hb _ (List.getElem_mem hs)) ra; (try simp only [hM] at hh); exact hh) (fun h1 => ?_) (fun h1 => ?_) <;> try cbv
    · refine hK _ _ ?_
      cbv
      refine retN hr (hq.trans (firstTo_at hs (by rw [hu']; exact h1) fun j hj => ?_))
      exact (Bool.not_eq_true' _).mp (hp j hj)
    · conv => arg 1; cbv
      rw [e1]
      exact ih _ hs (by rw [hu', Bool.not_eq_true']; exact h1) rfl
  · have hs : i = l.length := Nat.le_antisymm hi (hxl ▸ iltF hF h)
    subst hs
    refine hK _ _ ?_
    cbv
    refine retN hr (hq.trans (firstTo_none fun j hj => ?_))
    exact (Bool.not_eq_true' _).mp (hp j hj)
theorem clashI_cf (a b : List Val) (l : List Idx) (hl : l.length ≤ maxLen)(ra : Rights a) (hb : ∀ u ∈ l, u.cols.length ≤ 1048576 ∧ (∀ j, j < u.cols.length → placeAt a u.cols j = true) ∧ (∀ j, j < u.cols.length → placeAt b u.cols j = true)) : CallOK Tryz.prog 83 [.c (.y (.sl 2 (l.map Idx.row))), .fv 128 [[.sl 3 (a.map Val.row)], [.sl 3 (b.map Val.row)]]] (B (!allTo (fun i => !(fun u => (u.uniq && !hasNull (pk a u.cols) && decide (cmpLs (pk a u.cols) (pk b u.cols) = 0))) (l.getD i default)) l.length)) := by
  have hc := clashI_ix a b l hl ra hb
  have hh := hasTo_is (fun i => (fun u => (u.uniq && !hasNull (pk a u.cols) && decide (cmpLs (pk a u.cols) (pk b u.cols) = 0))) (l.getD i default)) l.length
  rw [← hh]
  obtain ⟨q, hq⟩ : ∃ q, q = firstTo (fun i => (fun u => (u.uniq && !hasNull (pk a u.cols) && decide (cmpLs (pk a u.cols) (pk b u.cols) = 0))) (l.getD i default)) l.length := ⟨_, rfl⟩
  rw [← hq] at hc ⊢
  clear hq hh
  obtain ⟨M, hM⟩ := mapEx
  try simp only [hM]
  refine go Tryz.func83 rfl rfl rfl rfl fun pAdd pSub pMul pQuo pRem pAnd pOr pXor pAndNot pShl pShr pNeg pCompl pConv pLt pLe pEq pSlt pSle pSeq pCat pCatOk pSlen pSsub pSat pIadd pIsub pBnot pBeq pImin pImax pLlen pLsub pLapp pLset pLcopy pLenOk pBytes pRep hF Ca hC r hr => ?_
  cbv
  refine callN hC (by have hh := hc; (try simp only [hM] at hh); exact hh) (fun m hm => ?_)
  cbv
  refine brkI (fun h1 => ?_) (fun h1 => ?_) <;> try cbv
  all_goals exact retR hr (by rw [← hm, ← leD hF 0 m]; exact h1.symm)

theorem iClash_ok (s : Sch) (a b : List Val) (hb : Sch.Bd 1048576 s) (pa : Placed s a) (pb : Placed s b) (ra : Rights a) : CallOK Tryz.prog 104 [.agg [.y (yS s.name), .y (.sl 3 (s.cols.map Col.row)), .y (.sl 1 (s.key.map rowI)), .y (.sl 2 (s.idx.map Idx.row))], .c (.y (.sl 3 (a.map Val.row))), .c (.y (.sl 3 (b.map Val.row)))] (B (clashB s a b)) := by
  have c := clashI_cf a b s.idx (Nat.le_trans hb.2.2.2.1.1 (by decide)) ra (fun u hu => ⟨(hb.2.2.2.1.2 u hu).1, pa.idx u hu, pb.idx u hu⟩)
  obtain ⟨q, hq⟩ : ∃ q, q = clashB s a b := ⟨_, rfl⟩
  rw [show (!allTo (fun i => !(fun u => (u.uniq && !hasNull (pk a u.cols) && decide (cmpLs (pk a u.cols) (pk b u.cols) = 0))) (s.idx.getD i default)) s.idx.length) = clashB s a b from rfl, ← hq] at c
  rw [← hq]
  clear hq
  obtain ⟨M, hM⟩ := mapEx
  try simp only [hM]
  refine go Tryz.func104 rfl rfl rfl rfl fun pAdd pSub pMul pQuo pRem pAnd pOr pXor pAndNot pShl pShr pNeg pCompl pConv pLt pLe pEq pSlt pSle pSeq pCat pCatOk pSlen pSsub pSat pIadd pIsub pBnot pBeq pImin pImax pLlen pLsub pLapp pLset pLcopy pLenOk pBytes pRep hF Ca hC r hr => ?_
  cbv
  refine callB hC (by have hh := c; (try simp only [hM] at hh); exact hh) (fun h => ?_) (fun h => ?_) <;> try cbv
  all_goals exact retR hr (by rw [h])
theorem tabCl_ok (t : Tbl) (row : List Val) (o : List Val) (ho : Placed t.sch o ∧ Rights o) (hb : Sch.Bd 1048576 t.sch) (pr : Placed t.sch row) :
    CallOK Tryz.prog 103 [.c (.y (.sl 3 (o.map Val.row))), .rp [yS t.sch.name, .sl 3 (t.sch.cols.map Col.row), .sl 1 (t.sch.key.map rowI), .sl 2 (t.sch.idx.map Idx.row), .sl 1 (t.rows.map rowVs)], .rp [.sl 3 (row.map Val.row)]] (B (clashB t.sch o row)) := by
  have c := iClash_ok t.sch o row hb ho.1 pr ho.2
  obtain ⟨q, hq⟩ : ∃ q, q = clashB t.sch o row := ⟨_, rfl⟩
  rw [← hq] at c ⊢
  clear hq
  obtain ⟨M, hM⟩ := mapEx
  try simp only [hM]
  refine go Tryz.func103 rfl rfl rfl rfl fun pAdd pSub pMul pQuo pRem pAnd pOr pXor pAndNot pShl pShr pNeg pCompl pConv pLt pLe pEq pSlt pSle pSeq pCat pCatOk pSlen pSsub pSat pIadd pIsub pBnot pBeq pImin pImax pLlen pLsub pLapp pLset pLcopy pLenOk pBytes pRep hF Ca hC r hr => ?_
  cbv
  refine callB hC (by have hh := c; (try simp only [hM] at hh); exact hh) (fun h => ?_) (fun h => ?_) <;> try cbv
  all_goals exact retR hr (by rw [h])
theorem tabCl_ix (t : Tbl) (row : List Val) (l : List (List Val)) (hl : l.length ≤ maxLen)(hb0 : Sch.Bd 1048576 t.sch) (pr : Placed t.sch row) (hb : ∀ u ∈ l, Placed t.sch u ∧ Rights u) : CallOK Tryz.prog 127 [.c (.y (.sl 1 (l.map rowVs))), .fv 103 [[yS t.sch.name, .sl 3 (t.sch.cols.map Col.row), .sl 1 (t.sch.key.map rowI), .sl 2 (t.sch.idx.map Idx.row), .sl 1 (t.rows.map rowVs)], [.sl 3 (row.map Val.row)]]] (N (firstTo (fun i => (fun u => clashB t.sch u row) (l.getD i [])) l.length)) := by
  rw [maxLen_is] at hl
  obtain ⟨q, hq⟩ : ∃ q, q = firstTo (fun i => (fun u => clashB t.sch u row) (l.getD i [])) l.length := ⟨_, rfl⟩
  obtain ⟨xs, hx⟩ : ∃ xs, xs = l.map rowVs := ⟨_, rfl⟩
  have hxl : xs.length = l.length := by rw [hx, List.length_map]
  rw [← hq, ← hx]
  obtain ⟨M, hM⟩ := mapEx
  try simp only [hM]
  refine go Tryz.func127 rfl rfl rfl rfl fun pAdd pSub pMul pQuo pRem pAnd pOr pXor pAndNot pShl pShr pNeg pCompl pConv pLt pLe pEq pSlt pSle pSeq pCat pCatOk pSlen pSsub pSat pIadd pIsub pBnot pBeq pImin pImax pLlen pLsub pLapp pLset pLcopy pLenOk pBytes pRep hF Ca hC r hr => ?_
  cbv
  refine loop_all (fun a st => st.n 8 (Int.ofNat a)) (fun i => !(fun u => clashB t.sch u row) (l.getD i [])) l.length rfl (fun K' hK I i hi hp ih => ?_)
  cbv
  refine brkI (fun h => ?_) (fun h => ?_) <;> try cbv
  · have hs : i < l.length := hxl ▸ iltT hF h
    have e1 : pAdd .i64 (Int.ofNat i) 1 = Int.ofNat (i + 1) := add1Is hF (by omega)
    refine lgetM (fun u => [.sl 3 (M Val.row u)]) (fun u => by simp only [rowVs, hM]) hx hs fun u hu => ?_
    cbv
    have hu' : l.getD i [] = u := getD_of hs hu
    refine callB hC (by have hh := tabCl_ok t row u (hu ▸ hb _ (List.getElem_mem hs)) hb0 pr; (try simp only [hM] at hh); exact hh) (fun h1 => ?_) (fun h1 => ?_) <;> try cbv
    · refine hK _ _ ?_
      cbv
      refine retN hr (hq.trans (firstTo_at hs (by rw [hu']; exact h1) fun j hj => ?_))
      exact (Bool.not_eq_true' _).mp (hp j hj)
    · conv => arg 1; cbv
      rw [e1]
      exact ih _ hs (by rw [hu', Bool.not_eq_true']; exact h1) rfl
  · have hs : i = l.length := Nat.le_antisymm hi (hxl ▸ iltF hF h)
    subst hs
    refine hK _ _ ?_
    cbv
    refine retN hr (hq.trans (firstTo_none fun j hj => ?_))
    exact (Bool.not_eq_true' _).mp (hp j hj)
theorem tabCl_cf (t : Tbl) (row : List Val) (l : List (List Val)) (hl : l.length ≤ maxLen)(hb0 : Sch.Bd 1048576 t.sch) (pr : Placed t.sch row) (hb : ∀ u ∈ l, Placed t.sch u ∧ Rights u) : CallOK Tryz.prog 102 [.c (.y (.sl 1 (l.map rowVs))), .fv 103 [[yS t.sch.name, .sl 3 (t.sch.cols.map Col.row), .sl 1 (t.sch.key.map rowI), .sl 2 (t.sch.idx.map Idx.row), .sl 1 (t.rows.map rowVs)], [.sl 3 (row.map Val.row)]]] (B (!allTo (fun i => !(fun u => clashB t.sch u row) (l.getD i [])) l.length)) := by
  have hc := tabCl_ix t row l hl hb0 pr hb
  have hh := hasTo_is (fun i => (fun u => clashB t.sch u row) (l.getD i [])) l.length
  rw [← hh]
  obtain ⟨q, hq⟩ : ∃ q, q = firstTo (fun i => (fun u => clashB t.sch u row) (l.getD i [])) l.length := ⟨_, rfl⟩
  rw [← hq] at hc ⊢
  clear hq hh
  obtain ⟨M, hM⟩ := mapEx
  try simp only [hM]
  refine go Tryz.func102 rfl rfl rfl rfl fun pAdd pSub pMul pQuo pRem pAnd pOr pXor pAndNot pShl pShr pNeg pCompl pConv pLt pLe pEq pSlt pSle pSeq pCat pCatOk pSlen pSsub pSat pIadd pIsub pBnot pBeq pImin pImax pLlen pLsub pLapp pLset pLcopy pLenOk pBytes pRep hF Ca hC r hr => ?_
  cbv
  refine callN hC (by have hh := hc; (try simp only [hM] at hh); exact hh) (fun m hm => ?_)
  cbv
  refine brkI (fun h1 => ?_) (fun h1 => ?_) <;> try cbv
  all_goals exact retR hr (by rw [← hm, ← leD hF 0 m]; exact h1.symm)

end Go.Proofs.YtemfaiabbonpnaaGreatDoor
