/- Functions of the program, each with what it returns, run by the evaluator; the conditions stand in the theorems. -/
import Derived.Test.YtemfaiabbonpnaaGreatDoorLSchema
namespace Go.Proofs.YtemfaiabbonpnaaGreatDoor
open Go Go.Proofs.YtemfaiabbonpnaaGreatDoorW Go.Proofs
set_option linter.unusedVariables false
set_option linter.unusedSimpArgs false
set_option maxRecDepth 100000
set_option maxHeartbeats 8000000
def valueRight (k n : Int) (s : ByteArray) : Bool :=
  if k = 0 then decide (n = 0) && decide (s.toList = []) else if k = 1 then decide (0 ≤ n) && decide (n ≤ 1) && decide (s.toList = [])
  else if k = 2 then decide (s.toList = []) else if k = 3 then decide (n = 0) && decide (s.size ≤ 200) else false
theorem sValueRight_ok (k n : Int) (s : ByteArray) : CallOK Tryz.prog 108 [.agg [.y (yN k), .y (yN n), .y (yS s)]] (B (valueRight k n s)) := by
  obtain ⟨M, hM⟩ := mapEx
  try simp only [hM]
  refine go Tryz.func108 rfl rfl rfl rfl fun pAdd pSub pMul pQuo pRem pAnd pOr pXor pAndNot pShl pShr pNeg pCompl pConv pLt pLe pEq pSlt pSle pSeq pCat pCatOk pSlen pSsub pSat pIadd pIsub pBnot pBeq pImin pImax pLlen pLsub pLapp pLset pLcopy pLenOk pBytes pRep hF Ca hC r hr => ?_
  cbv
  repeat' (refine brkI (fun _ => ?_) (fun _ => ?_) <;> try cbv)
  all_goals (cases hF; subst hr; unfold valueRight; simp_all <;> first | omega | skip)
theorem iValueRight_ok (k n : Int) (s : ByteArray) : CallOK Tryz.prog 87 [.agg [.y (yN k), .y (yN n), .y (yS s)]] (B (valueRight k n s)) := by
  obtain ⟨M, hM⟩ := mapEx
  try simp only [hM]
  refine go Tryz.func87 rfl rfl rfl rfl fun pAdd pSub pMul pQuo pRem pAnd pOr pXor pAndNot pShl pShr pNeg pCompl pConv pLt pLe pEq pSlt pSle pSeq pCat pCatOk pSlen pSsub pSat pIadd pIsub pBnot pBeq pImin pImax pLlen pLsub pLapp pLset pLcopy pLenOk pBytes pRep hF Ca hC r hr => ?_
  cbv
  repeat' (first | (refine brkI (fun _ => ?_) (fun _ => ?_) <;> try cbv) | (refine callB hC (within_ok _ _ _) (fun _ => ?_) (fun _ => ?_) <;> cbv))
  all_goals (cases hF; subst hr; unfold valueRight; simp_all <;> first | omega | skip)
def Val.right (v : Val) : Bool := valueRight v.k v.n v.s
def valAt (l : List Val) (i : Nat) : Bool := (l.getD i default).right
def valsRight (l : List Val) : Bool := decide (l.length ≤ 12) && allTo (valAt l) l.length
theorem valsRight_long {l : List Val} (h : 12 < l.length) : valsRight l = false := by rw [valsRight, decide_eq_false (by omega)]; rfl
theorem valsRight_bad {l : List Val} {i : Nat} (h : i < l.length) (hp : valAt l i = false) : valsRight l = false := by rw [valsRight, allTo_false h hp, Bool.and_false]
theorem sValuesRight_ok (l : List Val) : CallOK Tryz.prog 71 [.c (.y (.sl 3 (l.map Val.row)))] (B (valsRight l)) := by
  obtain ⟨q, hq⟩ : ∃ q, q = valsRight l := ⟨_, rfl⟩
  obtain ⟨xs, hx⟩ : ∃ xs, xs = l.map Val.row := ⟨_, rfl⟩
  have hxl : xs.length = l.length := by rw [hx, List.length_map]
  rw [← hq, ← hx]
  obtain ⟨M, hM⟩ := mapEx
  try simp only [hM]
  refine go Tryz.func71 rfl rfl rfl rfl fun pAdd pSub pMul pQuo pRem pAnd pOr pXor pAndNot pShl pShr pNeg pCompl pConv pLt pLe pEq pSlt pSle pSeq pCat pCatOk pSlen pSsub pSat pIadd pIsub pBnot pBeq pImin pImax pLlen pLsub pLapp pLset pLcopy pLenOk pBytes pRep hF Ca hC r hr => ?_
  cbv
  refine brkI (fun h => ?_) (fun h => ?_) <;> try cbv
  · have := ltT hF h
    rw [show pLlen xs = Int.ofNat xs.length from llenIs hF xs, hxl] at this
    exact retB hr (hq.trans (valsRight_long (by ((try simp only [Int.ofNat_eq_natCast] at *); omega))))
  · have h12 := ltF hF h
    rw [show pLlen xs = Int.ofNat xs.length from llenIs hF xs, hxl] at h12
    have h12 : l.length ≤ 12 := by ((try simp only [Int.ofNat_eq_natCast] at *); omega)
    refine loop_all (fun a st => st.n 3 (Int.ofNat a)) (valAt l) l.length rfl (fun K' hK I i hi hp ih => ?_)
    cbv
    refine brkI (fun h => ?_) (fun h => ?_) <;> try cbv
    · have hs : i < l.length := hxl ▸ iltT hF h
      have e1 : pAdd .i64 (Int.ofNat i) 1 = Int.ofNat (i + 1) := add1Is hF (by omega)
      refine lgetM (fun u => [yN u.k, yN u.n, yS u.s]) (fun u => by simp only [Val.row, hM]) hx hs fun u hu => ?_
      cbv
      have hu' : valAt l i = valueRight u.k u.n u.s := by rw [valAt, getD_of hs hu]; rfl
      refine callB hC (sValueRight_ok _ _ _) (fun h1 => ?_) (fun h1 => ?_) <;> try cbv
      · conv => arg 1; cbv
        rw [e1]
        exact ih _ hs (hu'.trans h1) rfl
      · refine hK _ _ ?_
        cbv
        exact retB hr (hq.trans (valsRight_bad hs (hu'.trans h1)))
    · have hs : i = l.length := Nat.le_antisymm hi (hxl ▸ iltF hF h)
      subst hs
      refine hK _ _ ?_
      cbv
      refine retB hr (hq.trans ?_)
      rw [valsRight, decide_eq_true h12, allTo_iff.2 hp]; rfl
theorem notValue_ok (u : Val) : CallOK Tryz.prog 86 [.agg [.y (yN u.k), .y (yN u.n), .y (yS u.s)]] (B (!u.right)) := by
  have hh := iValueRight_ok u.k u.n u.s
  have e : u.right = valueRight u.k u.n u.s := rfl
  rw [e]
  obtain ⟨q, hq⟩ : ∃ q, q = valueRight u.k u.n u.s := ⟨_, rfl⟩
  rw [← hq] at hh ⊢
  clear e hq
  obtain ⟨M, hM⟩ := mapEx
  try simp only [hM]
  refine go Tryz.func86 rfl rfl rfl rfl fun pAdd pSub pMul pQuo pRem pAnd pOr pXor pAndNot pShl pShr pNeg pCompl pConv pLt pLe pEq pSlt pSle pSeq pCat pCatOk pSlen pSsub pSat pIadd pIsub pBnot pBeq pImin pImax pLlen pLsub pLapp pLset pLcopy pLenOk pBytes pRep hF Ca hC r hr => ?_
  cbv
  refine callB hC hh (fun h1 => ?_) (fun h1 => ?_) <;> try cbv
  all_goals exact retR hr (by rw [h1]; rfl)
theorem notValue_ix (l : List Val) (hl : l.length ≤ maxLen) : CallOK Tryz.prog 115 [.c (.y (.sl 3 (l.map Val.row))), .c (.y (.sc (.func (.func 86) ⟨[]⟩ ⟨[]⟩)))] (N (firstTo (fun i => (fun u => !u.right) (l.getD i default)) l.length)) := by
  rw [maxLen_is] at hl
  obtain ⟨q, hq⟩ : ∃ q, q = firstTo (fun i => (fun u => !u.right) (l.getD i default)) l.length := ⟨_, rfl⟩
  obtain ⟨xs, hx⟩ : ∃ xs, xs = l.map Val.row := ⟨_, rfl⟩
  have hxl : xs.length = l.length := by rw [hx, List.length_map]
  rw [← hq, ← hx]
  obtain ⟨M, hM⟩ := mapEx
  try simp only [hM]
  refine go Tryz.func115 rfl rfl rfl rfl fun pAdd pSub pMul pQuo pRem pAnd pOr pXor pAndNot pShl pShr pNeg pCompl pConv pLt pLe pEq pSlt pSle pSeq pCat pCatOk pSlen pSsub pSat pIadd pIsub pBnot pBeq pImin pImax pLlen pLsub pLapp pLset pLcopy pLenOk pBytes pRep hF Ca hC r hr => ?_
  cbv
  refine loop_all (fun a st => st.n 8 (Int.ofNat a)) (fun i => !(fun u => !u.right) (l.getD i default)) l.length rfl (fun K' hK I i hi hp ih => ?_)
  cbv
  refine brkI (fun h => ?_) (fun h => ?_) <;> try cbv
  · have hs : i < l.length := hxl ▸ iltT hF h
    have e1 : pAdd .i64 (Int.ofNat i) 1 = Int.ofNat (i + 1) := add1Is hF (by omega)
    refine lgetM (fun u => [yN u.k, yN u.n, yS u.s]) (fun u => by simp only [Val.row, hM]) hx hs fun u hu => ?_
    cbv
    have hu' : l.getD i default = u := getD_of hs hu
    refine callB hC (by have hh := notValue_ok u; (try simp only [hM] at hh); exact hh) (fun h1 => ?_) (fun h1 => ?_) <;> try cbv
    · refine hK _ _ ?_
      cbv
      refine retN hr (hq.trans (firstTo_at hs (by rw [hu']; exact h1) fun j hj => ?_))
      exact (Bool.not_eq_true' _).mp (hp j hj)
    · conv => arg 1; cbv
      rw [e1]
      exact ih _ hs (by rw [hu', Bool.not_eq_true']; exact h1) rfl
  · have hs : i = l.length := Nat.le_antisymm hi (hxl ▸ iltF hF h)
    subst hs
    refine hK _ _ ?_
    cbv
    refine retN hr (hq.trans (firstTo_none fun j hj => ?_))
    exact (Bool.not_eq_true' _).mp (hp j hj)
theorem notValue_cf (l : List Val) (hl : l.length ≤ maxLen) : CallOK Tryz.prog 85 [.c (.y (.sl 3 (l.map Val.row))), .c (.y (.sc (.func (.func 86) ⟨[]⟩ ⟨[]⟩)))] (B (!allTo (fun i => !(fun u => !u.right) (l.getD i default)) l.length)) := by
  have hc := notValue_ix l hl
  have hh := hasTo_is (fun i => (fun u => !u.right) (l.getD i default)) l.length
  rw [← hh]
  obtain ⟨q, hq⟩ : ∃ q, q = firstTo (fun i => (fun u => !u.right) (l.getD i default)) l.length := ⟨_, rfl⟩
  rw [← hq] at hc ⊢
  clear hq hh
  obtain ⟨M, hM⟩ := mapEx
  try simp only [hM]
  refine go Tryz.func85 rfl rfl rfl rfl fun pAdd pSub pMul pQuo pRem pAnd pOr pXor pAndNot pShl pShr pNeg pCompl pConv pLt pLe pEq pSlt pSle pSeq pCat pCatOk pSlen pSsub pSat pIadd pIsub pBnot pBeq pImin pImax pLlen pLsub pLapp pLset pLcopy pLenOk pBytes pRep hF Ca hC r hr => ?_
  cbv
  refine callN hC (by have hh := hc; (try simp only [hM] at hh); exact hh) (fun m hm => ?_)
  cbv
  refine brkI (fun h1 => ?_) (fun h1 => ?_) <;> try cbv
  all_goals exact retR hr (by rw [← hm, ← leD hF 0 m]; exact h1.symm)

theorem iValuesRight_ok (l : List Val) (hl : l.length ≤ maxLen) : CallOK Tryz.prog 56 [.c (.y (.sl 3 (l.map Val.row)))] (B (valsRight l)) := by
  have hc := notValue_cf l hl
  have he : allTo (fun i => !(fun u : Val => !u.right) (l.getD i default)) l.length = allTo (valAt l) l.length := allTo_congr fun j hj => Bool.not_not _
  rw [he] at hc
  obtain ⟨q, hq⟩ : ∃ q, q = valsRight l := ⟨_, rfl⟩
  obtain ⟨a, ha⟩ : ∃ a, a = allTo (valAt l) l.length := ⟨_, rfl⟩
  obtain ⟨xs, hx⟩ : ∃ xs, xs = l.map Val.row := ⟨_, rfl⟩
  have hxl : xs.length = l.length := by rw [hx, List.length_map]
  rw [← ha, ← hx] at hc
  rw [← hq, ← hx]
  have hq' : q = (decide (l.length ≤ 12) && a) := by rw [hq, ha]; rfl
  obtain ⟨M, hM⟩ := mapEx
  try simp only [hM]
  refine go Tryz.func56 rfl rfl rfl rfl fun pAdd pSub pMul pQuo pRem pAnd pOr pXor pAndNot pShl pShr pNeg pCompl pConv pLt pLe pEq pSlt pSle pSeq pCat pCatOk pSlen pSsub pSat pIadd pIsub pBnot pBeq pImin pImax pLlen pLsub pLapp pLset pLcopy pLenOk pBytes pRep hF Ca hC r hr => ?_
  cbv
  refine brkI (fun h => ?_) (fun h => ?_) <;> try cbv
  · have h12 := leT hF h
    rw [show pLlen xs = Int.ofNat xs.length from llenIs hF xs, hxl] at h12
    have h12 : l.length ≤ 12 := by ((try simp only [Int.ofNat_eq_natCast] at *); omega)
    refine callB hC hc (fun h1 => ?_) (fun h1 => ?_) <;> try cbv
    all_goals
      refine retB hr (hq'.trans ?_)
      rw [decide_eq_true h12]
      simpa using h1
  · have h12 := leF hF h
    rw [show pLlen xs = Int.ofNat xs.length from llenIs hF xs, hxl] at h12
    refine retB hr (hq'.trans ?_)
    rw [decide_eq_false (by ((try simp only [Int.ofNat_eq_natCast] at *); omega))]; rfl
/-! rows -/
def cellAt (cols : List Col) (row : List Val) (i : Nat) : Bool := (row.getD i default).right && (decide ((row.getD i default).k = (cols.getD i default).kind) || ((cols.getD i default).nul && decide ((row.getD i default).k = 0)))
def rowOk (s : Sch) (row : List Val) : Bool := decide (row.length = s.cols.length) && allTo (cellAt s.cols row) row.length
theorem rowOk_len {s : Sch} {row : List Val} (h : ¬ row.length = s.cols.length) : rowOk s row = false := by rw [rowOk, decide_eq_false h]; rfl
theorem rowOk_bad {s : Sch} {row : List Val} {i : Nat} (h : i < row.length) (hp : cellAt s.cols row i = false) : rowOk s row = false := by rw [rowOk, allTo_false h hp, Bool.and_false]
theorem sRow_ok (s : Sch) (row : List Val) (hl : row.length ≤ maxLen) : CallOK Tryz.prog 94 [.agg [.y (yS s.name), .y (.sl 3 (s.cols.map Col.row)), .y (.sl 1 (s.key.map rowI)), .y (.sl 2 (s.idx.map Idx.row))], .c (.y (.sl 3 (row.map Val.row)))] (B (rowOk s row)) := by
  rw [maxLen_is] at hl
  obtain ⟨q, hq⟩ : ∃ q, q = rowOk s row := ⟨_, rfl⟩
  obtain ⟨xs, hx⟩ : ∃ xs, xs = row.map Val.row := ⟨_, rfl⟩
  have hxl : xs.length = row.length := by rw [hx, List.length_map]
  obtain ⟨cs, hcs⟩ : ∃ cs, cs = s.cols.map Col.row := ⟨_, rfl⟩
  have hcl : cs.length = s.cols.length := by rw [hcs, List.length_map]
  rw [← hq, ← hx, ← hcs]
  obtain ⟨M, hM⟩ := mapEx
  try simp only [hM]
  refine go Tryz.func94 rfl rfl rfl rfl fun pAdd pSub pMul pQuo pRem pAnd pOr pXor pAndNot pShl pShr pNeg pCompl pConv pLt pLe pEq pSlt pSle pSeq pCat pCatOk pSlen pSsub pSat pIadd pIsub pBnot pBeq pImin pImax pLlen pLsub pLapp pLset pLcopy pLenOk pBytes pRep hF Ca hC r hr => ?_
  cbv
  have e1 : pLlen xs = Int.ofNat row.length := by rw [← hxl]; exact llenIs hF xs
  have e2 : pLlen cs = Int.ofNat s.cols.length := by rw [← hcl]; exact llenIs hF cs
  refine brkI (fun h => ?_) (fun h => ?_) <;> try cbv
  · have hlen := eqT hF h
    rw [e1, e2] at hlen
    have hlen : row.length = s.cols.length := Int.ofNat.inj hlen
    refine loop_all (fun a st => st.n 5 (Int.ofNat a)) (cellAt s.cols row) row.length rfl (fun K' hK I i hi hp ih => ?_)
    cbv
    refine brkI (fun h => ?_) (fun h => ?_) <;> try cbv
    · have hs : i < row.length := hxl ▸ iltT hF h
      have hs2 : i < s.cols.length := hlen ▸ hs
      have e1 : pAdd .i64 (Int.ofNat i) 1 = Int.ofNat (i + 1) := add1Is hF (by omega)
      obtain ⟨u, hu⟩ : ∃ u, u = row[i] := ⟨_, rfl⟩
      obtain ⟨c, hc⟩ : ∃ c, c = s.cols[i] := ⟨_, rfl⟩
      have hat : cellAt s.cols row i = (valueRight u.k u.n u.s && (decide (u.k = c.kind) || (c.nul && decide (u.k = 0)))) := by rw [cellAt, getD_of hs hu, getD_of hs2 hc]; rfl
      refine lgetM (fun u => [yN u.k, yN u.n, yS u.s]) (fun u => by simp only [Val.row, hM]) hx hs fun v hv => ?_
      rw [show v = u from hv.trans hu.symm]
      cbv
      refine callB hC (sValueRight_ok u.k u.n u.s) (fun h1 => ?_) (fun h1 => ?_) <;> try cbv
      all_goals repeat' (first
        | (refine brkI (fun h2 => ?_) (fun h2 => ?_) <;> try cbv)
        | (refine lgetM (fun u => [yN u.k, yN u.n, yS u.s]) (fun u => by simp only [Val.row, hM]) hx hs fun v hv => ?_; rw [show v = u from hv.trans hu.symm]; cbv)
        | (refine lgetM (fun u => [yS u.name, yN u.kind, yB u.nul]) (fun u => by simp only [Col.row, hM]) hcs hs2 fun d hd => ?_; rw [show d = c from hd.trans hc.symm]; cbv))
      all_goals first
        | (conv => arg 1; cbv
           rw [e1]
           refine ih _ hs (hat.trans ?_) rfl)
        | (refine hK _ _ ?_
           cbv
           refine retB hr (hq.trans (rowOk_bad hs (hat.trans ?_))))
      all_goals
        clear hK ih hC hr hp hu hc hat
        have lD : ∀ a b, pLt a b = decide (a < b) := ltD hF
        have eD : ∀ a b, pLe a b = decide (a ≤ b) := leD hF
        have qD : ∀ a b, pEq a b = decide (a = b) := eqD hF
        have sD : ∀ a b, pSeq a b = decide (a = b) := seqD hF
        simp only [lD, eD, qD, decide_eq_true_eq, decide_eq_false_iff_not] at *
        clear lD eD qD sD hF
        grind
    · have hs : i = row.length := Nat.le_antisymm hi (hxl ▸ iltF hF h)
      subst hs
      refine hK _ _ ?_
      cbv
      refine retB hr (hq.trans ?_)
      rw [rowOk, decide_eq_true hlen, allTo_iff.2 hp]; rfl
  · have hlen := eqF hF h
    rw [e1, e2] at hlen
    exact retB hr (hq.trans (rowOk_len fun e => hlen (by rw [e])))
theorem iRow_ok (s : Sch) (row : List Val) (hl : row.length ≤ maxLen) : CallOK Tryz.prog 99 [.agg [.y (yS s.name), .y (.sl 3 (s.cols.map Col.row)), .y (.sl 1 (s.key.map rowI)), .y (.sl 2 (s.idx.map Idx.row))], .c (.y (.sl 3 (row.map Val.row)))] (B (rowOk s row)) := by
  rw [maxLen_is] at hl
  obtain ⟨q, hq⟩ : ∃ q, q = rowOk s row := ⟨_, rfl⟩
  obtain ⟨xs, hx⟩ : ∃ xs, xs = row.map Val.row := ⟨_, rfl⟩
  have hxl : xs.length = row.length := by rw [hx, List.length_map]
  obtain ⟨cs, hcs⟩ : ∃ cs, cs = s.cols.map Col.row := ⟨_, rfl⟩
  have hcl : cs.length = s.cols.length := by rw [hcs, List.length_map]
  rw [← hq, ← hx, ← hcs]
  obtain ⟨M, hM⟩ := mapEx
  try simp only [hM]
  refine go Tryz.func99 rfl rfl rfl rfl fun pAdd pSub pMul pQuo pRem pAnd pOr pXor pAndNot pShl pShr pNeg pCompl pConv pLt pLe pEq pSlt pSle pSeq pCat pCatOk pSlen pSsub pSat pIadd pIsub pBnot pBeq pImin pImax pLlen pLsub pLapp pLset pLcopy pLenOk pBytes pRep hF Ca hC r hr => ?_
  cbv
  have e1 : pLlen xs = Int.ofNat row.length := by rw [← hxl]; exact llenIs hF xs
  have e2 : pLlen cs = Int.ofNat s.cols.length := by rw [← hcl]; exact llenIs hF cs
  refine brkI (fun h => ?_) (fun h => ?_) <;> try cbv
  · have hlen := eqT hF h
    rw [e1, e2] at hlen
    have hlen : row.length = s.cols.length := Int.ofNat.inj hlen
    refine loop_all (fun a st => st.n 16 (Int.ofNat a)) (cellAt s.cols row) row.length rfl (fun K' hK I i hi hp ih => ?_)
    cbv
    refine brkI (fun h => ?_) (fun h => ?_) <;> try cbv
    · have hs : i < row.length := hxl ▸ iltT hF h
      have hs2 : i < s.cols.length := hlen ▸ hs
      have e1 : pAdd .i64 (Int.ofNat i) 1 = Int.ofNat (i + 1) := add1Is hF (by omega)
      obtain ⟨u, hu⟩ : ∃ u, u = row[i] := ⟨_, rfl⟩
      obtain ⟨c, hc⟩ : ∃ c, c = s.cols[i] := ⟨_, rfl⟩
      have hat : cellAt s.cols row i = (valueRight u.k u.n u.s && (decide (u.k = c.kind) || (c.nul && decide (u.k = 0)))) := by rw [cellAt, getD_of hs hu, getD_of hs2 hc]; rfl
      refine lgetM (fun u => [yN u.k, yN u.n, yS u.s]) (fun u => by simp only [Val.row, hM]) hx hs fun v hv => ?_
      rw [show v = u from hv.trans hu.symm]
      cbv
      refine lgetM (fun u => [yS u.name, yN u.kind, yB u.nul]) (fun u => by simp only [Col.row, hM]) hcs hs2 fun d hd => ?_
      rw [show d = c from hd.trans hc.symm]
      cbv
      refine callB hC (iValueRight_ok u.k u.n u.s) (fun h1 => ?_) (fun h1 => ?_) <;> try cbv
      all_goals repeat' (refine brkI (fun h2 => ?_) (fun h2 => ?_) <;> try cbv)
      all_goals first
        | (conv => arg 1; cbv
           rw [e1]
           refine ih _ hs (hat.trans ?_) rfl)
        | (refine hK _ _ ?_
           cbv
           refine retB hr (hq.trans (rowOk_bad hs (hat.trans ?_))))
        | (exfalso; clear hK ih hC hr hp hF hq; grind)
      all_goals
        clear hK ih hC hr hp hu hc hat
        have lD : ∀ a b, pLt a b = decide (a < b) := ltD hF
        have eD : ∀ a b, pLe a b = decide (a ≤ b) := leD hF
        have qD : ∀ a b, pEq a b = decide (a = b) := eqD hF
        have sD : ∀ a b, pSeq a b = decide (a = b) := seqD hF
        simp only [lD, eD, qD, decide_eq_true_eq, decide_eq_false_iff_not] at *
        clear lD eD qD sD hF
        grind
    · have hs : i = row.length := Nat.le_antisymm hi (hxl ▸ iltF hF h)
      subst hs
      refine hK _ _ ?_
      cbv
      refine retB hr (hq.trans ?_)
      rw [rowOk, decide_eq_true hlen, allTo_iff.2 hp]; rfl
  · have hlen := eqF hF h
    rw [e1, e2] at hlen
    exact retB hr (hq.trans (rowOk_len fun e => hlen (by rw [e])))
end Go.Proofs.YtemfaiabbonpnaaGreatDoor
