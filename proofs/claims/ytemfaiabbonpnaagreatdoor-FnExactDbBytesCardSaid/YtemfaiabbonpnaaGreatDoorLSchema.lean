/- Functions of the program, each with what it returns, run by the evaluator; the conditions stand in the theorems. -/
import Derived.Test.YtemfaiabbonpnaaGreatDoorLName
namespace Go.Proofs.YtemfaiabbonpnaaGreatDoor
open Go Go.Proofs.YtemfaiabbonpnaaGreatDoorW Go.Proofs
set_option linter.unusedVariables false
set_option linter.unusedSimpArgs false
set_option maxRecDepth 100000
set_option maxHeartbeats 8000000
def colOk (l : List Int) (many : Int) (i : Nat) : Bool := decide (0 ≤ l.getD i 0) && decide (l.getD i 0 < many) && allTo (fun k => decide (¬ l.getD k 0 = l.getD i 0)) i
def colsRight (l : List Int) (many : Int) : Bool := decide (1 ≤ l.length) && allTo (colOk l many) l.length
theorem colsRight_none {l : List Int} {many : Int} (h : l.length < 1) : colsRight l many = false := by rw [colsRight, decide_eq_false (by omega)]; rfl
theorem colsRight_bad {l : List Int} {many : Int} {i : Nat} (h : i < l.length) (hp : colOk l many i = false) : colsRight l many = false := by rw [colsRight, allTo_false h hp, Bool.and_false]
theorem colsRight_all {l : List Int} {many : Int} (h : allTo (colOk l many) l.length = true) : colsRight l many = decide (1 ≤ l.length) := by rw [colsRight, h, Bool.and_true]
theorem sColumns_ok (l : List Int) (many : Int) (hl : l.length ≤ maxLen) : CallOK Tryz.prog 72 [.c (.y (.sl 1 (l.map rowI))), aN many] (B (colsRight l many)) := by
  rw [maxLen_is] at hl
  obtain ⟨q, hq⟩ : ∃ q, q = colsRight l many := ⟨_, rfl⟩
  obtain ⟨xs, hx⟩ : ∃ xs, xs = l.map rowI := ⟨_, rfl⟩
  have hxl : xs.length = l.length := by rw [hx, List.length_map]
  rw [← hq, ← hx]
  obtain ⟨M, hM⟩ := mapEx
  try simp only [hM]
  refine go Tryz.func72 rfl rfl rfl rfl fun pAdd pSub pMul pQuo pRem pAnd pOr pXor pAndNot pShl pShr pNeg pCompl pConv pLt pLe pEq pSlt pSle pSeq pCat pCatOk pSlen pSsub pSat pIadd pIsub pBnot pBeq pImin pImax pLlen pLsub pLapp pLset pLcopy pLenOk pBytes pRep hF Ca hC r hr => ?_
  cbv
  have e0 : pLlen xs = Int.ofNat xs.length := llenIs hF xs
  refine brkI (fun h1 => ?_) (fun h1 => ?_) <;> try cbv
  · have := ltT hF h1
    rw [e0, hxl] at this
    exact retB hr (hq.trans (colsRight_none (Int.ofNat_lt.1 this)))
  · have h1 := ltF hF h1
    rw [e0, hxl] at h1
    have h1 : 1 ≤ l.length := Int.ofNat_le.1 h1
    refine loop_all (fun a st => st.n 5 (Int.ofNat a)) (colOk l many) l.length rfl (fun K' hK I i hi hp ih => ?_)
    cbv
    refine brkI (fun h => ?_) (fun h => ?_) <;> try cbv
    · have hs : i < l.length := hxl ▸ iltT hF h
      have e1 : pAdd .i64 (Int.ofNat i) 1 = Int.ofNat (i + 1) := add1Is hF (by omega)
      refine lgetM (fun u => [yN u]) (fun u => by simp only [rowI]) hx hs fun u hu => ?_
      cbv
      have hu' : l.getD i 0 = u := getD_of hs hu
      have bad : colOk l many i = false → q = false := fun hp => hq.trans (colsRight_bad hs hp)
      refine brkI (fun h2 => ?_) (fun h2 => ?_) <;> try cbv
      · refine hK _ _ ?_
        cbv
        refine retB hr (bad ?_)
        have := ltT hF h2
        rw [colOk, hu', decide_eq_false (by omega)]; rfl
      · have h2' := ltF hF h2
        refine lgetM (fun u => [yN u]) (fun u => by simp only [rowI]) hx hs fun u2 hu2 => ?_
        rw [show u2 = u from hu2.trans hu.symm]
        cbv
        refine brkI (fun h3 => ?_) (fun h3 => ?_) <;> try cbv
        · refine hK _ _ ?_
          cbv
          refine retB hr (bad ?_)
          have := leT hF h3
          rw [colOk, hu', decide_eq_false (p := u < many) (by omega), Bool.and_false]; rfl
        · have h3' := leF hF h3
          refine loop_all (fun a st => st.n 6 (Int.ofNat a)) (fun k => decide (¬ l.getD k 0 = u)) i rfl (fun K2 hK2 I2 k hk hpk ihk => ?_)
          cbv
          refine brkI (fun h4 => ?_) (fun h4 => ?_) <;> try cbv
          · have hk' : k < i := Int.ofNat_lt.1 (ltT hF h4)
            have e2 : pAdd .i64 (Int.ofNat k) 1 = Int.ofNat (k + 1) := add1Is hF (by omega)
            refine lgetM (fun u => [yN u]) (fun u => by simp only [rowI]) hx (Nat.lt_trans hk' hs) fun v hv => ?_
            cbv
            refine lgetM (fun u => [yN u]) (fun u => by simp only [rowI]) hx hs fun u3 hu3 => ?_
            rw [show u3 = u from hu3.trans hu.symm]
            cbv
            have hv' : l.getD k 0 = v := getD_of (Nat.lt_trans hk' hs) hv
            refine brkI (fun h5 => ?_) (fun h5 => ?_) <;> try cbv
            · refine hK2 _ _ (hK _ _ ?_)
              cbv
              refine retB hr (bad ?_)
              have h6 := eqT hF h5
              rw [colOk, hu', allTo_false hk' (by rw [hv', h6]; simp), Bool.and_false]
            · have h6 := eqF hF h5
              conv => arg 1; cbv
              rw [e2]
              exact ihk _ hk' (by rw [hv']; exact decide_eq_true h6) rfl
          · have hk' : k = i := Nat.le_antisymm hk (Int.ofNat_le.1 (ltF hF h4))
            subst hk'
            refine hK2 _ _ ?_
            cbv
            conv => arg 1; cbv
            rw [e1]
            refine ih _ hs ?_ rfl
            rw [colOk, hu', decide_eq_true h2', decide_eq_true h3', allTo_iff.2 hpk]; rfl
    · have hs : i = l.length := Nat.le_antisymm hi (hxl ▸ iltF hF h)
      subst hs
      refine hK _ _ ?_
      cbv
      refine retB hr (hq.trans ((colsRight_all (allTo_iff.2 hp)).trans (decide_eq_true h1)))
def hasI (l : List Int) (x : Int) : Bool := l.contains x
theorem allTo_contains (l : List Int) (x : Int) : ∀ i, i ≤ l.length → allTo (fun k => decide (¬ l.getD k 0 = x)) i = !hasI (l.take i) x
  | 0, _ => by simp [allTo, hasI]
  | i + 1, h => by
    rw [allTo, allTo_contains l x i (by omega), hasI, hasI, List.take_succ_eq_append_getElem (by omega), List.contains_append, getD_at (by omega)]
    by_cases e : l[i] = x
    · simp [e]
    · have e' : ¬ x = l[i] := fun h => e h.symm
      simp [e, e']
theorem indexInt_ok (l : List Int) (x : Int) (hl : l.length ≤ maxLen) : CallOK Tryz.prog 131 [.c (.y (.sl 1 (l.map rowI))), aN x] (N (firstTo (fun i => decide (l.getD i 0 = x)) l.length)) := by
  rw [maxLen_is] at hl
  obtain ⟨q, hq⟩ : ∃ q, q = firstTo (fun i => decide (l.getD i 0 = x)) l.length := ⟨_, rfl⟩
  obtain ⟨xs, hx⟩ : ∃ xs, xs = l.map rowI := ⟨_, rfl⟩
  have hxl : xs.length = l.length := by rw [hx, List.length_map]
  rw [← hq, ← hx]
  obtain ⟨M, hM⟩ := mapEx
  try simp only [hM]
  refine go Tryz.func131 rfl rfl rfl rfl fun pAdd pSub pMul pQuo pRem pAnd pOr pXor pAndNot pShl pShr pNeg pCompl pConv pLt pLe pEq pSlt pSle pSeq pCat pCatOk pSlen pSsub pSat pIadd pIsub pBnot pBeq pImin pImax pLlen pLsub pLapp pLset pLcopy pLenOk pBytes pRep hF Ca hC r hr => ?_
  cbv
  refine loop_all (fun a st => st.n 8 (Int.ofNat a)) (fun i => decide (¬ l.getD i 0 = x)) l.length rfl (fun K' hK I i hi hp ih => ?_)
  cbv
  have hp' : ∀ j, j < i → decide (l.getD j 0 = x) = false := fun j hj => decide_eq_false (of_decide_eq_true (hp j hj))
  refine brkI (fun h => ?_) (fun h => ?_) <;> try cbv
  · have hs : i < l.length := hxl ▸ iltT hF h
    have e1 : pAdd .i64 (Int.ofNat i) 1 = Int.ofNat (i + 1) := add1Is hF (by omega)
    refine lgetM (fun u => [yN u]) (fun u => by simp only [rowI]) hx hs fun u hu => ?_
    cbv
    have hu' : l.getD i 0 = u := getD_of hs hu
    refine brkI (fun h1 => ?_) (fun h1 => ?_) <;> try cbv
    · refine hK _ _ ?_
      cbv
      exact retN hr (hq.trans (firstTo_at hs (by rw [hu']; exact decide_eq_true (eqT hF h1).symm) hp'))
    · conv => arg 1; cbv
      rw [e1]
      exact ih _ hs (by rw [hu']; exact decide_eq_true fun e => eqF hF h1 e.symm) rfl
  · have hs : i = l.length := Nat.le_antisymm hi (hxl ▸ iltF hF h)
    subst hs
    refine hK _ _ ?_
    cbv
    exact retN hr (hq.trans (firstTo_none hp'))
theorem containsInt_ok (l : List Int) (x : Int) (hl : l.length ≤ maxLen) : CallOK Tryz.prog 111 [.c (.y (.sl 1 (l.map rowI))), aN x] (B (hasI l x)) := by
  have hc := indexInt_ok l x hl
  have hh := hasTo_is (fun i => decide (l.getD i 0 = x)) l.length
  have h2 := allTo_contains l x l.length (Nat.le_refl _)
  rw [List.take_length] at h2
  simp only [decide_not] at h2
  rw [h2, Bool.not_not] at hh
  rw [← hh]
  obtain ⟨q, hq⟩ : ∃ q, q = firstTo (fun i => decide (l.getD i 0 = x)) l.length := ⟨_, rfl⟩
  rw [← hq] at hc ⊢
  clear hq hh
  obtain ⟨M, hM⟩ := mapEx
  try simp only [hM]
  refine go Tryz.func111 rfl rfl rfl rfl fun pAdd pSub pMul pQuo pRem pAnd pOr pXor pAndNot pShl pShr pNeg pCompl pConv pLt pLe pEq pSlt pSle pSeq pCat pCatOk pSlen pSsub pSat pIadd pIsub pBnot pBeq pImin pImax pLlen pLsub pLapp pLset pLcopy pLenOk pBytes pRep hF Ca hC r hr => ?_
  cbv
  refine callN hC (by have hh := hc; (try simp only [hM] at hh); exact hh) (fun m hm => ?_)
  cbv
  refine brkI (fun h1 => ?_) (fun h1 => ?_) <;> try cbv
  all_goals exact retR hr (by rw [← hm, ← leD hF 0 m]; exact h1.symm)
theorem areColumns_ok (s : Sch) (l : List Int) (hl : l.length ≤ maxLen) (hc : s.cols.length ≤ maxLen) : CallOK Tryz.prog 81 [.agg [.y (yS s.name), .y (.sl 3 (s.cols.map Col.row)), .y (.sl 1 (s.key.map rowI)), .y (.sl 2 (s.idx.map Idx.row))], .c (.y (.sl 1 (l.map rowI)))] (B (colsRight l (Int.ofNat s.cols.length))) := by
  rw [maxLen_is] at hl hc
  obtain ⟨q, hq⟩ : ∃ q, q = colsRight l (Int.ofNat s.cols.length) := ⟨_, rfl⟩
  obtain ⟨xs, hx⟩ : ∃ xs, xs = l.map rowI := ⟨_, rfl⟩
  have hxl : xs.length = l.length := by rw [hx, List.length_map]
  obtain ⟨cs, hcs⟩ : ∃ cs, cs = s.cols.map Col.row := ⟨_, rfl⟩
  have hcl : cs.length = s.cols.length := by rw [hcs, List.length_map]
  rw [← hq, ← hx, ← hcs]
  obtain ⟨M, hM⟩ := mapEx
  try simp only [hM]
  refine go Tryz.func81 rfl rfl rfl rfl fun pAdd pSub pMul pQuo pRem pAnd pOr pXor pAndNot pShl pShr pNeg pCompl pConv pLt pLe pEq pSlt pSle pSeq pCat pCatOk pSlen pSsub pSat pIadd pIsub pBnot pBeq pImin pImax pLlen pLsub pLapp pLset pLcopy pLenOk pBytes pRep hF Ca hC r hr => ?_
  cbv
  refine loop_all (fun a st => st.n 9 (Int.ofNat a)) (colOk l (Int.ofNat s.cols.length)) l.length rfl (fun K' hK I i hi hp ih => ?_)
  cbv
  refine brkI (fun h => ?_) (fun h => ?_) <;> try cbv
  · have hs : i < l.length := hxl ▸ iltT hF h
    have e1 : pAdd .i64 (Int.ofNat i) 1 = Int.ofNat (i + 1) := add1Is hF (by omega)
    refine lgetM (fun u => [yN u]) (fun u => by simp only [rowI]) hx hs fun u hu => ?_
    cbv
    have hu' : l.getD i 0 = u := getD_of hs hu
    have bad : colOk l (Int.ofNat s.cols.length) i = false → q = false := fun hp => hq.trans (colsRight_bad hs hp)
    obtain ⟨m, hm⟩ : ∃ m, m = pSub .i64 (pLlen cs) 1 := ⟨_, rfl⟩
    rw [← hm]
    have hw := within_ok u 0 m
    refine callB hC hw (fun h1 => ?_) (fun h1 => ?_) <;> try cbv
    all_goals
      have e2 : pLlen cs = Int.ofNat cs.length := llenIs hF cs
      have e3 : m = Int.ofNat cs.length - 1 := by rw [hm, e2]; exact subIs hF (by ((try simp only [Int.ofNat_eq_natCast] at *); omega)) (by ((try simp only [Int.ofNat_eq_natCast] at *); omega))
      rw [hcl] at e3
    · refine brT (zeroLe hF i) (brT (mkLe hF ?_) ?_)
      · rw [show ∀ n : Nat, Int.ofNat n = (n : Int) from fun _ => rfl, show pLlen xs = (xs.length : Int) from llenIs hF xs]; omega
      · rw [show pLsub xs 0 (pIsub (Int.ofNat i) 0) = (l.take i).map rowI from lsubTake hF hx i]
        refine callB hC (containsInt_ok (l.take i) u (by rw [maxLen_is, List.length_take]; omega)) (fun h2 => ?_) (fun h2 => ?_) <;> try cbv
        · refine hK _ _ ?_
          cbv
          refine retB hr (bad ?_)
          rw [colOk, hu', allTo_contains l u i (Nat.le_of_lt hs), h2, Bool.not_true, Bool.and_false]
        · conv => arg 1; cbv
          rw [e1]
          refine ih _ hs ?_ rfl
          rw [colOk, hu', allTo_contains l u i (Nat.le_of_lt hs), h2]
          simp only [e3] at h1
          (first | (simp only [Bool.or_eq_true, Bool.and_eq_true, Bool.not_eq_true', Bool.or_eq_false_iff, Bool.and_eq_false_iff, Bool.not_eq_false', decide_eq_true_eq, decide_eq_false_iff_not, Bool.not_false, Bool.not_true, Bool.and_true, Bool.true_and, Bool.or_false, Bool.false_or, and_true, true_and, Int.ofNat_eq_natCast] at *; omega) | (simp only [Bool.eq_false_iff, ne_eq, Bool.or_eq_true, Bool.and_eq_true, Bool.not_eq_true', decide_eq_true_eq, decide_eq_false_iff_not, Bool.not_false, Bool.not_true, Bool.and_true, Bool.true_and, Bool.or_false, Bool.false_or, and_true, true_and, Int.ofNat_eq_natCast] at *; omega) | (simp only [Bool.or_eq_true, Bool.and_eq_true, Bool.not_eq_true', Bool.or_eq_false_iff, Bool.and_eq_false_iff, Bool.not_eq_false', decide_eq_true_eq, decide_eq_false_iff_not, Bool.not_false, Bool.not_true, Bool.and_true, Bool.true_and, Bool.or_false, Bool.false_or, and_true, true_and, Int.ofNat_eq_natCast] at *; grind) | grind)
    · refine hK _ _ ?_
      cbv
      refine retB hr (bad ?_)
      rw [colOk, hu']
      have : (decide (0 ≤ u) && decide (u < Int.ofNat s.cols.length)) = false := by
        simp only [e3] at h1
        (first | (simp only [Bool.or_eq_true, Bool.and_eq_true, Bool.not_eq_true', Bool.or_eq_false_iff, Bool.and_eq_false_iff, Bool.not_eq_false', decide_eq_true_eq, decide_eq_false_iff_not, Bool.not_false, Bool.not_true, Bool.and_true, Bool.true_and, Bool.or_false, Bool.false_or, and_true, true_and, Int.ofNat_eq_natCast] at *; omega) | (simp only [Bool.eq_false_iff, ne_eq, Bool.or_eq_true, Bool.and_eq_true, Bool.not_eq_true', decide_eq_true_eq, decide_eq_false_iff_not, Bool.not_false, Bool.not_true, Bool.and_true, Bool.true_and, Bool.or_false, Bool.false_or, and_true, true_and, Int.ofNat_eq_natCast] at *; omega) | (simp only [Bool.or_eq_true, Bool.and_eq_true, Bool.not_eq_true', Bool.or_eq_false_iff, Bool.and_eq_false_iff, Bool.not_eq_false', decide_eq_true_eq, decide_eq_false_iff_not, Bool.not_false, Bool.not_true, Bool.and_true, Bool.true_and, Bool.or_false, Bool.false_or, and_true, true_and, Int.ofNat_eq_natCast] at *; grind) | grind)
      rw [this, Bool.false_and]
  · have hs : i = l.length := Nat.le_antisymm hi (hxl ▸ iltF hF h)
    subst hs
    have hq' : q = decide (1 ≤ l.length) := hq.trans (colsRight_all (allTo_iff.2 hp))
    refine hK _ _ ?_
    cbv
    refine brkI (fun h1 => ?_) (fun h1 => ?_) <;> try cbv
    · have h2 := ltT hF h1
      rw [show pLlen xs = Int.ofNat xs.length from llenIs hF xs, hxl] at h2
      exact retB hr (hq'.trans (decide_eq_true (Int.ofNat_lt.1 h2)))
    · have h2 := ltF hF h1
      rw [show pLlen xs = Int.ofNat xs.length from llenIs hF xs, hxl] at h2
      exact retB hr (hq'.trans (decide_eq_false (Nat.not_lt.2 (Int.ofNat_le.1 h2))))
theorem colName_ok (name : ByteArray) (u : Col) : CallOK Tryz.prog 113 [.agg [.y (yS u.name), .y (yN u.kind), .y (yB u.nul)], .rp [yS name]] (B (decide (u.name = name))) := by
  obtain ⟨M, hM⟩ := mapEx
  try simp only [hM]
  refine go Tryz.func113 rfl rfl rfl rfl fun pAdd pSub pMul pQuo pRem pAnd pOr pXor pAndNot pShl pShr pNeg pCompl pConv pLt pLe pEq pSlt pSle pSeq pCat pCatOk pSlen pSsub pSat pIadd pIsub pBnot pBeq pImin pImax pLlen pLsub pLapp pLset pLcopy pLenOk pBytes pRep hF Ca hC r hr => ?_
  cbv
  refine brkI (fun h => ?_) (fun h => ?_) <;> try cbv
  all_goals exact retR hr (by rw [← seqD hF]; exact h.symm)
theorem colName_ix (name : ByteArray) (l : List Col) (hl : l.length ≤ maxLen) : CallOK Tryz.prog 112 [.c (.y (.sl 3 (l.map Col.row))), .fv 113 [[yS name]]] (N (firstTo (fun i => (fun u => decide (u.name = name)) (l.getD i default)) l.length)) := by
  rw [maxLen_is] at hl
  obtain ⟨q, hq⟩ : ∃ q, q = firstTo (fun i => (fun u => decide (u.name = name)) (l.getD i default)) l.length := ⟨_, rfl⟩
  obtain ⟨xs, hx⟩ : ∃ xs, xs = l.map Col.row := ⟨_, rfl⟩
  have hxl : xs.length = l.length := by rw [hx, List.length_map]
  rw [← hq, ← hx]
  obtain ⟨M, hM⟩ := mapEx
  try simp only [hM]
  refine go Tryz.func112 rfl rfl rfl rfl fun pAdd pSub pMul pQuo pRem pAnd pOr pXor pAndNot pShl pShr pNeg pCompl pConv pLt pLe pEq pSlt pSle pSeq pCat pCatOk pSlen pSsub pSat pIadd pIsub pBnot pBeq pImin pImax pLlen pLsub pLapp pLset pLcopy pLenOk pBytes pRep hF Ca hC r hr => ?_
  cbv
  refine loop_all (fun a st => st.n 8 (Int.ofNat a)) (fun i => !(fun u => decide (u.name = name)) (l.getD i default)) l.length rfl (fun K' hK I i hi hp ih => ?_)
  cbv
  refine brkI (fun h => ?_) (fun h => ?_) <;> try cbv
  · have hs : i < l.length := hxl ▸ iltT hF h
    have e1 : pAdd .i64 (Int.ofNat i) 1 = Int.ofNat (i + 1) := add1Is hF (by omega)
    refine lgetM (fun u => [yS u.name, yN u.kind, yB u.nul]) (fun u => by simp only [Col.row, hM]) hx hs fun u hu => ?_
    cbv
    have hu' : l.getD i default = u := getD_of hs hu
    refine callB hC (by have hh := colName_ok name u; (try simp only [hM] at hh); exact hh) (fun h1 => ?_) (fun h1 => ?_) <;> try cbv
    · refine hK _ _ ?_
      cbv
      refine retN hr (hq.trans (firstTo_at hs (by rw [hu']; exact h1) fun j hj => ?_))
      exact (Bool.not_eq_true' _).mp (hp j hj)
    · conv => arg 1; cbv
      rw [e1]
      exact ih _ hs (by rw [hu', Bool.not_eq_true']; exact h1) rfl
  · have hs : i = l.length := Nat.le_antisymm hi (hxl ▸ iltF hF h)
    subst hs
    refine hK _ _ ?_
    cbv
    refine retN hr (hq.trans (firstTo_none fun j hj => ?_))
    exact (Bool.not_eq_true' _).mp (hp j hj)

def colOf (l : List Col) (name : ByteArray) : Int := firstTo (fun i => decide ((l.getD i default).name = name)) l.length
theorem columnOf_ok (s : Sch) (name : ByteArray) (hl : s.cols.length ≤ maxLen) : CallOK Tryz.prog 82 [.agg [.y (yS s.name), .y (.sl 3 (s.cols.map Col.row)), .y (.sl 1 (s.key.map rowI)), .y (.sl 2 (s.idx.map Idx.row))], aS name] (N (colOf s.cols name)) := by
  obtain ⟨q, hq⟩ : ∃ q, q = colOf s.cols name := ⟨_, rfl⟩
  have hc := colName_ix name s.cols hl
  have e : firstTo (fun i => (fun u : Col => decide (u.name = name)) (s.cols.getD i default)) s.cols.length = q := hq.symm
  rw [e] at hc
  rw [← hq]
  obtain ⟨cs, hcs⟩ : ∃ cs, cs = s.cols.map Col.row := ⟨_, rfl⟩
  rw [← hcs] at hc ⊢
  clear e hq
  obtain ⟨M, hM⟩ := mapEx
  try simp only [hM]
  refine go Tryz.func82 rfl rfl rfl rfl fun pAdd pSub pMul pQuo pRem pAnd pOr pXor pAndNot pShl pShr pNeg pCompl pConv pLt pLe pEq pSlt pSle pSeq pCat pCatOk pSlen pSsub pSat pIadd pIsub pBnot pBeq pImin pImax pLlen pLsub pLapp pLset pLcopy pLenOk pBytes pRep hF Ca hC r hr => ?_
  cbv
  refine callN hC hc (fun m hm => ?_)
  cbv
  exact retN hr hm.symm
def colAt (l : List Col) (i : Nat) : Bool := nameRight (l.getD i default).name && (decide (1 ≤ (l.getD i default).kind) && decide ((l.getD i default).kind ≤ 3)) && allTo (fun k => decide (¬ (l.getD k default).name = (l.getD i default).name)) i
def schHead (s : Sch) : Bool := nameRight s.name && decide (1 ≤ s.cols.length) && decide (s.cols.length ≤ 10) && colsRight s.key (Int.ofNat s.cols.length) && decide (s.idx.length ≤ 4)
def keyAt (s : Sch) (i : Nat) : Bool := !(s.cols.getD (s.key.getD i 0).toNat default).nul
def idxAt (s : Sch) (i : Nat) : Bool := colsRight (s.idx.getD i default).cols (Int.ofNat s.cols.length)
def schRight (s : Sch) : Bool := schHead s && allTo (colAt s.cols) s.cols.length && allTo (keyAt s) s.key.length && allTo (idxAt s) s.idx.length
theorem schRight_head {s : Sch} (h : schHead s = false) : schRight s = false := by rw [schRight, h]; rfl
theorem schRight_col {s : Sch} {i : Nat} (h : i < s.cols.length) (hp : colAt s.cols i = false) : schRight s = false := by rw [schRight, allTo_false h hp, Bool.and_false]; rfl
theorem schRight_key {s : Sch} {i : Nat} (h : i < s.key.length) (hp : keyAt s i = false) : schRight s = false := by rw [schRight, allTo_false h hp, Bool.and_false]; rfl
theorem schRight_idx {s : Sch} {i : Nat} (h : i < s.idx.length) (hp : idxAt s i = false) : schRight s = false := by rw [schRight, allTo_false h hp, Bool.and_false]
theorem colsRight_get {l : List Int} {many : Int} (h : colsRight l many = true) {i : Nat} (hi : i < l.length) : 0 ≤ l[i] ∧ l[i] < many := by
  rw [colsRight, Bool.and_eq_true] at h
  have := allTo_iff.1 h.2 i hi
  rw [colOk, getD_at hi, Bool.and_eq_true, Bool.and_eq_true] at this
  exact ⟨of_decide_eq_true this.1.1, of_decide_eq_true this.1.2⟩
end Go.Proofs.YtemfaiabbonpnaaGreatDoor
