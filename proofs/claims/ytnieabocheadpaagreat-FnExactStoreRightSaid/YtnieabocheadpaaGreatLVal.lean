/- Functions of the program, each with what it returns, run by the evaluator; the conditions stand in the theorems. -/
import Derived.Test.YtnieabocheadpaaGreatLSchema
namespace Go.Proofs.YtnieabocheadpaaGreat
open Go Go.Proofs.YtnieabocheadpaaGreatW Go.Proofs
set_option linter.unusedVariables false
set_option linter.unusedSimpArgs false
set_option maxRecDepth 100000
set_option maxHeartbeats 8000000
def valueRight (k n : Int) (s : ByteArray) : Bool :=
  if k = 0 then decide (n = 0) && decide (s.toList = []) else if k = 1 then decide (0 ≤ n) && decide (n ≤ 1) && decide (s.toList = [])
  else if k = 2 then decide (s.toList = []) else if k = 3 then decide (n = 0) && decide (s.size ≤ 200) else false
theorem sValueRight_ok (k n : Int) (s : ByteArray) : CallOK Tryz.prog 114 [.agg [.y (yN k), .y (yN n), .y (yS s)]] (B (valueRight k n s)) := by
  obtain ⟨M, hM⟩ := mapEx
  try simp only [hM]
  refine go Tryz.func114 rfl rfl rfl rfl fun pAdd pSub pMul pQuo pRem pAnd pOr pXor pAndNot pShl pShr pNeg pCompl pConv pLt pLe pEq pSlt pSle pSeq pCat pCatOk pSlen pSsub pSat pIadd pIsub pBnot pBeq pImin pImax pLlen pLsub pLapp pLset pLcopy pLenOk pBytes pRep hF Ca hC r hr => ?_
  cbv
  repeat' (refine brkI (fun _ => ?_) (fun _ => ?_) <;> try cbv)
  all_goals (cases hF; subst hr; unfold valueRight; simp_all <;> first | omega | skip)
theorem iValueRight_ok (k n : Int) (s : ByteArray) : CallOK Tryz.prog 135 [.agg [.y (yN k), .y (yN n), .y (yS s)]] (B (valueRight k n s)) := by
  obtain ⟨M, hM⟩ := mapEx
  try simp only [hM]
  refine go Tryz.func135 rfl rfl rfl rfl fun pAdd pSub pMul pQuo pRem pAnd pOr pXor pAndNot pShl pShr pNeg pCompl pConv pLt pLe pEq pSlt pSle pSeq pCat pCatOk pSlen pSsub pSat pIadd pIsub pBnot pBeq pImin pImax pLlen pLsub pLapp pLset pLcopy pLenOk pBytes pRep hF Ca hC r hr => ?_
  cbv
  repeat' (first | (refine brkI (fun _ => ?_) (fun _ => ?_) <;> try cbv) | (refine callB hC (within_ok _ _ _) (fun _ => ?_) (fun _ => ?_) <;> cbv))
  all_goals (cases hF; subst hr; unfold valueRight; simp_all <;> first | omega | skip)
def Val.right (v : Val) : Bool := valueRight v.k v.n v.s
def valAt (l : List Val) (i : Nat) : Bool := (l.getD i default).right
def valsRight (l : List Val) : Bool := decide (l.length ≤ 12) && allTo (valAt l) l.length
theorem valsRight_long {l : List Val} (h : 12 < l.length) : valsRight l = false := by rw [valsRight, decide_eq_false (by omega)]; rfl
theorem valsRight_bad {l : List Val} {i : Nat} (h : i < l.length) (hp : valAt l i = false) : valsRight l = false := by rw [valsRight, allTo_false h hp, Bool.and_false]
def cellAt (cols : List Col) (row : List Val) (i : Nat) : Bool := (row.getD i default).right && (decide ((row.getD i default).k = (cols.getD i default).kind) || ((cols.getD i default).nul && decide ((row.getD i default).k = 0)))
def rowOk (s : Sch) (row : List Val) : Bool := decide (row.length = s.cols.length) && allTo (cellAt s.cols row) row.length
theorem rowOk_len {s : Sch} {row : List Val} (h : ¬ row.length = s.cols.length) : rowOk s row = false := by rw [rowOk, decide_eq_false h]; rfl
theorem rowOk_bad {s : Sch} {row : List Val} {i : Nat} (h : i < row.length) (hp : cellAt s.cols row i = false) : rowOk s row = false := by rw [rowOk, allTo_false h hp, Bool.and_false]
theorem sRow_ok (s : Sch) (row : List Val) (hl : row.length ≤ maxLen) : CallOK Tryz.prog 69 [.agg [.y (yS s.name), .y (.sl 3 (s.cols.map Col.row)), .y (.sl 1 (s.key.map rowI)), .y (.sl 2 (s.idx.map Idx.row))], .c (.y (.sl 3 (row.map Val.row)))] (B (rowOk s row)) := by
  rw [maxLen_is] at hl
  obtain ⟨q, hq⟩ : ∃ q, q = rowOk s row := ⟨_, rfl⟩
  obtain ⟨xs, hx⟩ : ∃ xs, xs = row.map Val.row := ⟨_, rfl⟩
  have hxl : xs.length = row.length := by rw [hx, List.length_map]
  obtain ⟨cs, hcs⟩ : ∃ cs, cs = s.cols.map Col.row := ⟨_, rfl⟩
  have hcl : cs.length = s.cols.length := by rw [hcs, List.length_map]
  rw [← hq, ← hx, ← hcs]
  obtain ⟨M, hM⟩ := mapEx
  try simp only [hM]
  refine go Tryz.func69 rfl rfl rfl rfl fun pAdd pSub pMul pQuo pRem pAnd pOr pXor pAndNot pShl pShr pNeg pCompl pConv pLt pLe pEq pSlt pSle pSeq pCat pCatOk pSlen pSsub pSat pIadd pIsub pBnot pBeq pImin pImax pLlen pLsub pLapp pLset pLcopy pLenOk pBytes pRep hF Ca hC r hr => ?_
  cbv
  have e1 : pLlen xs = Int.ofNat row.length := by rw [← hxl]; exact llenIs hF xs
  have e2 : pLlen cs = Int.ofNat s.cols.length := by rw [← hcl]; exact llenIs hF cs
  refine brkI (fun h => ?_) (fun h => ?_) <;> try cbv
  · have hlen := eqT hF h
    rw [e1, e2] at hlen
    have hlen : row.length = s.cols.length := Int.ofNat.inj hlen
    refine loop_all (fun a st => st.n 5 (Int.ofNat a)) (cellAt s.cols row) row.length rfl (fun K' hK I i hi hp ih => ?_)
    cbv
    refine brkI (fun h => ?_) (fun h => ?_) <;> try cbv
    · have hs : i < row.length := hxl ▸ iltT hF h
      have hs2 : i < s.cols.length := hlen ▸ hs
      have e1 : pAdd .i64 (Int.ofNat i) 1 = Int.ofNat (i + 1) := add1Is hF (by omega)
      obtain ⟨u, hu⟩ : ∃ u, u = row[i] := ⟨_, rfl⟩
      obtain ⟨c, hc⟩ : ∃ c, c = s.cols[i] := ⟨_, rfl⟩
      have hat : cellAt s.cols row i = (valueRight u.k u.n u.s && (decide (u.k = c.kind) || (c.nul && decide (u.k = 0)))) := by rw [cellAt, getD_of hs hu, getD_of hs2 hc]; rfl
      refine lgetM (fun u => [yN u.k, yN u.n, yS u.s]) (fun u => by simp only [Val.row, hM]) hx hs fun v hv => ?_
      rw [show v = u from hv.trans hu.symm]
      cbv
      refine callB hC (sValueRight_ok u.k u.n u.s) (fun h1 => ?_) (fun h1 => ?_) <;> try cbv
      all_goals repeat' (first
        | (refine brkI (fun h2 => ?_) (fun h2 => ?_) <;> try cbv)
        | (refine lgetM (fun u => [yN u.k, yN u.n, yS u.s]) (fun u => by simp only [Val.row, hM]) hx hs fun v hv => ?_; rw [show v = u from hv.trans hu.symm]; cbv)
        | (refine lgetM (fun u => [yS u.name, yN u.kind, yB u.nul]) (fun u => by simp only [Col.row, hM]) hcs hs2 fun d hd => ?_; rw [show d = c from hd.trans hc.symm]; cbv))
      all_goals first
        | (conv => arg 1; cbv
           rw [e1]
           refine ih _ hs (hat.trans ?_) rfl)
        | (refine hK _ _ ?_
           cbv
           refine retB hr (hq.trans (rowOk_bad hs (hat.trans ?_))))
      all_goals
        clear hK ih hC hr hp hu hc hat
        have lD : ∀ a b, pLt a b = decide (a < b) := ltD hF
        have eD : ∀ a b, pLe a b = decide (a ≤ b) := leD hF
        have qD : ∀ a b, pEq a b = decide (a = b) := eqD hF
        have sD : ∀ a b, pSeq a b = decide (a = b) := seqD hF
        simp only [lD, eD, qD, decide_eq_true_eq, decide_eq_false_iff_not] at *
        clear lD eD qD sD hF
        grind
    · have hs : i = row.length := Nat.le_antisymm hi (hxl ▸ iltF hF h)
      subst hs
      refine hK _ _ ?_
      cbv
      refine retB hr (hq.trans ?_)
      rw [rowOk, decide_eq_true hlen, allTo_iff.2 hp]; rfl
  · have hlen := eqF hF h
    rw [e1, e2] at hlen
    exact retB hr (hq.trans (rowOk_len fun e => hlen (by rw [e])))
theorem iRow_ok (s : Sch) (row : List Val) (hl : row.length ≤ maxLen) : CallOK Tryz.prog 93 [.agg [.y (yS s.name), .y (.sl 3 (s.cols.map Col.row)), .y (.sl 1 (s.key.map rowI)), .y (.sl 2 (s.idx.map Idx.row))], .c (.y (.sl 3 (row.map Val.row)))] (B (rowOk s row)) := by
  rw [maxLen_is] at hl
  obtain ⟨q, hq⟩ : ∃ q, q = rowOk s row := ⟨_, rfl⟩
  obtain ⟨xs, hx⟩ : ∃ xs, xs = row.map Val.row := ⟨_, rfl⟩
  have hxl : xs.length = row.length := by rw [hx, List.length_map]
  obtain ⟨cs, hcs⟩ : ∃ cs, cs = s.cols.map Col.row := ⟨_, rfl⟩
  have hcl : cs.length = s.cols.length := by rw [hcs, List.length_map]
  rw [← hq, ← hx, ← hcs]
  obtain ⟨M, hM⟩ := mapEx
  try simp only [hM]
  refine go Tryz.func93 rfl rfl rfl rfl fun pAdd pSub pMul pQuo pRem pAnd pOr pXor pAndNot pShl pShr pNeg pCompl pConv pLt pLe pEq pSlt pSle pSeq pCat pCatOk pSlen pSsub pSat pIadd pIsub pBnot pBeq pImin pImax pLlen pLsub pLapp pLset pLcopy pLenOk pBytes pRep hF Ca hC r hr => ?_
  cbv
  have e1 : pLlen xs = Int.ofNat row.length := by rw [← hxl]; exact llenIs hF xs
  have e2 : pLlen cs = Int.ofNat s.cols.length := by rw [← hcl]; exact llenIs hF cs
  refine brkI (fun h => ?_) (fun h => ?_) <;> try cbv
  · have hlen := eqT hF h
    rw [e1, e2] at hlen
    have hlen : row.length = s.cols.length := Int.ofNat.inj hlen
    refine loop_all (fun a st => st.n 16 (Int.ofNat a)) (cellAt s.cols row) row.length rfl (fun K' hK I i hi hp ih => ?_)
    cbv
    refine brkI (fun h => ?_) (fun h => ?_) <;> try cbv
    · have hs : i < row.length := hxl ▸ iltT hF h
      have hs2 : i < s.cols.length := hlen ▸ hs
      have e1 : pAdd .i64 (Int.ofNat i) 1 = Int.ofNat (i + 1) := add1Is hF (by omega)
      obtain ⟨u, hu⟩ : ∃ u, u = row[i] := ⟨_, rfl⟩
      obtain ⟨c, hc⟩ : ∃ c, c = s.cols[i] := ⟨_, rfl⟩
      have hat : cellAt s.cols row i = (valueRight u.k u.n u.s && (decide (u.k = c.kind) || (c.nul && decide (u.k = 0)))) := by rw [cellAt, getD_of hs hu, getD_of hs2 hc]; rfl
      refine lgetM (fun u => [yN u.k, yN u.n, yS u.s]) (fun u => by simp only [Val.row, hM]) hx hs fun v hv => ?_
      rw [show v = u from hv.trans hu.symm]
      cbv
      refine lgetM (fun u => [yS u.name, yN u.kind, yB u.nul]) (fun u => by simp only [Col.row, hM]) hcs hs2 fun d hd => ?_
      rw [show d = c from hd.trans hc.symm]
      cbv
      refine callB hC (iValueRight_ok u.k u.n u.s) (fun h1 => ?_) (fun h1 => ?_) <;> try cbv
      all_goals repeat' (refine brkI (fun h2 => ?_) (fun h2 => ?_) <;> try cbv)
      all_goals first
        | (conv => arg 1; cbv
           rw [e1]
           refine ih _ hs (hat.trans ?_) rfl)
        | (refine hK _ _ ?_
           cbv
           refine retB hr (hq.trans (rowOk_bad hs (hat.trans ?_))))
        | (exfalso; clear hK ih hC hr hp hF hq; grind)
      all_goals
        clear hK ih hC hr hp hu hc hat
        have lD : ∀ a b, pLt a b = decide (a < b) := ltD hF
        have eD : ∀ a b, pLe a b = decide (a ≤ b) := leD hF
        have qD : ∀ a b, pEq a b = decide (a = b) := eqD hF
        have sD : ∀ a b, pSeq a b = decide (a = b) := seqD hF
        simp only [lD, eD, qD, decide_eq_true_eq, decide_eq_false_iff_not] at *
        clear lD eD qD sD hF
        grind
    · have hs : i = row.length := Nat.le_antisymm hi (hxl ▸ iltF hF h)
      subst hs
      refine hK _ _ ?_
      cbv
      refine retB hr (hq.trans ?_)
      rw [rowOk, decide_eq_true hlen, allTo_iff.2 hp]; rfl
  · have hlen := eqF hF h
    rw [e1, e2] at hlen
    exact retB hr (hq.trans (rowOk_len fun e => hlen (by rw [e])))
end Go.Proofs.YtnieabocheadpaaGreat
