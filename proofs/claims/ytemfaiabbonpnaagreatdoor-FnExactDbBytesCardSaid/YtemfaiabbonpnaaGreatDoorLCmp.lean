/- Functions of the program, each with what it returns, run by the evaluator; the conditions stand in the theorems. -/
import Derived.Test.YtemfaiabbonpnaaGreatDoorLVal
import Derived.Test.YtemfaiabbonpnaaGreatDoorV4
namespace Go.Proofs.YtemfaiabbonpnaaGreatDoor
open Go Go.Proofs.YtemfaiabbonpnaaGreatDoorW Go.Proofs
set_option linter.unusedVariables false
set_option linter.unusedSimpArgs false
set_option maxRecDepth 100000
set_option maxHeartbeats 8000000
/-! texts in order -/
theorem find_range_succ (p : Nat → Bool) (n : Nat) : (List.range (n + 1)).find? p = if p 0 then some 0 else ((List.range n).find? fun i => p (i + 1)).map (· + 1) := by
  rw [List.range_succ_eq_map, List.find?_cons]
  cases h : p 0 with
  | true => rfl
  | false => simp [List.find?_map, Function.comp_def]
def cmpL (a b : List UInt8) : Int :=
  match (List.range (min a.length b.length)).find? fun i => a[i]! != b[i]! with
  | some i => if a[i]! < b[i]! then -1 else 1
  | none => if a.length < b.length then -1 else if a.length > b.length then 1 else 0
theorem cmpL_cons (x y : UInt8) (a b : List UInt8) : cmpL (x :: a) (y :: b) = if x = y then cmpL a b else if x < y then -1 else 1 := by
  unfold cmpL
  rw [show min (x :: a).length (y :: b).length = min a.length b.length + 1 by simp [Nat.succ_min_succ], find_range_succ]
  by_cases h : x = y
  · subst h
    simp
    cases (List.range (min a.length b.length)).find? fun i => a[i]?.getD default != b[i]?.getD default <;> simp
  · simp [h]
theorem cmpL_is : ∀ a b : List UInt8, cmpL a b = if Op.bytesLess a b then -1 else if a = b then 0 else 1
  | [], [] => by simp [cmpL, Op.bytesLess]
  | [], y :: b => by simp [cmpL, Op.bytesLess]
  | x :: a, [] => by simp [cmpL, Op.bytesLess]
  | x :: a, y :: b => by
    rw [cmpL_cons, cmpL_is a b]
    by_cases h : x = y
    · subst h; simp [Op.bytesLess, UInt8.lt_irrefl]
    · simp [Op.bytesLess, h]
theorem bang_is (a : ByteArray) (i : Nat) : a[i]! = a.toList[i]! := by
  rw [ByteArray.toList_eq]
  by_cases h : i < a.size
  · rw [getElem!_pos a i h, getElem!_pos a.data.toList i (by simpa using h)]; rfl
  · rw [getElem!_neg a i h, getElem!_neg a.data.toList i (by simpa using h)]
theorem cmpS_is (a b : ByteArray) : cmpS a b = if Op.bytesLess a.toList b.toList then -1 else if a = b then 0 else 1 := by
  have h := cmpL_is a.toList b.toList
  simp only [toList_inj] at h
  rw [← h]
  have ha : a.size = a.toList.length := by rw [ByteArray.toList_eq]; rfl
  have hb : b.size = b.toList.length := by rw [ByteArray.toList_eq]; rfl
  simp only [cmpS, Go.Extern.BytealgCompare.cmp, cmpL, bang_is, ha, hb]
  rfl
theorem sltD {F : Prims} (hF : prims = F) (a b : ByteArray) : F.slt a b = decide (cmpS a b = -1) := by
  subst hF
  rw [cmpS_is]
  show Op.bytesLess a.toList b.toList = _
  cases Op.bytesLess a.toList b.toList with
  | true => simp
  | false => simp; split <;> simp
theorem cmpS_zero (a b : ByteArray) : cmpS a b = 0 ↔ a = b ∧ ¬ Op.bytesLess a.toList b.toList = true := by
  rw [cmpS_is]; split <;> simp_all
/-! values in order -/
def cmpI (a b : Int) : Int := if a < b then -1 else if b < a then 1 else 0
def cmpV (k n : Int) (s : ByteArray) (k' n' : Int) (s' : ByteArray) : Int := if k < k' then -1 else if k' < k then 1 else if n < n' then -1 else if n' < n then 1 else cmpS s s'
def Val.cmp (a b : Val) : Int := cmpV a.k a.n a.s b.k b.n b.s
theorem sOne_ok (k n : Int) (s : ByteArray) (k' n' : Int) (s' : ByteArray) : CallOK Tryz.prog 122 [.agg [.y (yN k), .y (yN n), .y (yS s)], .agg [.y (yN k'), .y (yN n'), .y (yS s')]] (N (cmpV k n s k' n' s')) := by
  obtain ⟨q, hq⟩ : ∃ q, q = cmpV k n s k' n' s' := ⟨_, rfl⟩
  rw [← hq]
  obtain ⟨M, hM⟩ := mapEx
  try simp only [hM]
  refine go Tryz.func122 rfl rfl rfl rfl fun pAdd pSub pMul pQuo pRem pAnd pOr pXor pAndNot pShl pShr pNeg pCompl pConv pLt pLe pEq pSlt pSle pSeq pCat pCatOk pSlen pSsub pSat pIadd pIsub pBnot pBeq pImin pImax pLlen pLsub pLapp pLset pLcopy pLenOk pBytes pRep hF Ca hC r hr => ?_
  cbv
  repeat' (refine brkI (fun _ => ?_) (fun _ => ?_) <;> try cbv)
  all_goals
    refine retN hr (hq.trans ?_)
    clear hC hr hq
    have lD : ∀ a b, pLt a b = decide (a < b) := ltD hF
    have eD : ∀ a b, pLe a b = decide (a ≤ b) := leD hF
    have qD : ∀ a b, pEq a b = decide (a = b) := eqD hF
    have sD : ∀ a b, pSeq a b = decide (a = b) := seqD hF
    have tD : ∀ a b, pSlt a b = decide (cmpS a b = -1) := sltD hF
    simp only [lD, eD, qD, sD, tD, decide_eq_true_eq, decide_eq_false_iff_not] at *
    clear lD eD qD sD tD hF
    unfold cmpV
    have := cmpS_zero s s'
    have := cmpS_is s s'
    grind
theorem isNaN_ok (a : Int) : CallOK Tryz.prog 146 [aN a] (B false) := by
  obtain ⟨M, hM⟩ := mapEx
  try simp only [hM]
  refine go Tryz.func146 rfl rfl rfl rfl fun pAdd pSub pMul pQuo pRem pAnd pOr pXor pAndNot pShl pShr pNeg pCompl pConv pLt pLe pEq pSlt pSle pSeq pCat pCatOk pSlen pSsub pSat pIadd pIsub pBnot pBeq pImin pImax pLlen pLsub pLapp pLset pLcopy pLenOk pBytes pRep hF Ca hC r hr => ?_
  cbv
  refine brkI (fun h => ?_) (fun h => ?_) <;> try cbv
  · exact hr.symm
  · exact absurd rfl (eqF hF h)
theorem cmpI_ok (a b : Int) : CallOK Tryz.prog 138 [aN a, aN b] (N (cmpI a b)) := by
  obtain ⟨q, hq⟩ : ∃ q, q = cmpI a b := ⟨_, rfl⟩
  rw [← hq]
  obtain ⟨M, hM⟩ := mapEx
  try simp only [hM]
  refine go Tryz.func138 rfl rfl rfl rfl fun pAdd pSub pMul pQuo pRem pAnd pOr pXor pAndNot pShl pShr pNeg pCompl pConv pLt pLe pEq pSlt pSle pSeq pCat pCatOk pSlen pSsub pSat pIadd pIsub pBnot pBeq pImin pImax pLlen pLsub pLapp pLset pLcopy pLenOk pBytes pRep hF Ca hC r hr => ?_
  cbv
  refine callB hC (isNaN_ok a) (fun hh => by cases hh) (fun hh => ?_)
  cbv
  refine callB hC (isNaN_ok b) (fun hh => by cases hh) (fun hh => ?_)
  cbv
  repeat' (refine brkI (fun _ => ?_) (fun _ => ?_) <;> try cbv)
  all_goals
    refine retN hr (hq.trans ?_)
    clear hC hr hq
    have lD : ∀ a b, pLt a b = decide (a < b) := ltD hF
    have eD : ∀ a b, pLe a b = decide (a ≤ b) := leD hF
    have qD : ∀ a b, pEq a b = decide (a = b) := eqD hF
    have sD : ∀ a b, pSeq a b = decide (a = b) := seqD hF
    simp only [lD, eD, qD, sD, decide_eq_true_eq, decide_eq_false_iff_not] at *
    clear lD eD qD sD hF
    unfold cmpI
    grind
theorem cmpstr_ok (a b : ByteArray) : CallOK Tryz.prog 150 [aS a, aS b] (N (cmpS a b)) := cmpstring_ok rfl rfl rfl rfl rfl a b
theorem cmpStr1_ok (a b : ByteArray) : CallOK Tryz.prog 147 [aS a, aS b] (N (cmpS a b)) := by
  have h := cmpstr_ok a b
  obtain ⟨q, hq⟩ : ∃ q, q = cmpS a b := ⟨_, rfl⟩
  rw [← hq] at h ⊢
  obtain ⟨M, hM⟩ := mapEx
  try simp only [hM]
  refine go Tryz.func147 rfl rfl rfl rfl fun pAdd pSub pMul pQuo pRem pAnd pOr pXor pAndNot pShl pShr pNeg pCompl pConv pLt pLe pEq pSlt pSle pSeq pCat pCatOk pSlen pSsub pSat pIadd pIsub pBnot pBeq pImin pImax pLlen pLsub pLapp pLset pLcopy pLenOk pBytes pRep hF Ca hC r hr => ?_
  cbv
  refine callN hC h (fun m hm => ?_)
  cbv
  exact retN hr hm.symm
theorem cmpStr_ok (a b : ByteArray) : CallOK Tryz.prog 139 [aS a, aS b] (N (cmpS a b)) := by
  have h := cmpStr1_ok a b
  obtain ⟨q, hq⟩ : ∃ q, q = cmpS a b := ⟨_, rfl⟩
  rw [← hq] at h ⊢
  obtain ⟨M, hM⟩ := mapEx
  try simp only [hM]
  refine go Tryz.func139 rfl rfl rfl rfl fun pAdd pSub pMul pQuo pRem pAnd pOr pXor pAndNot pShl pShr pNeg pCompl pConv pLt pLe pEq pSlt pSle pSeq pCat pCatOk pSlen pSsub pSat pIadd pIsub pBnot pBeq pImin pImax pLlen pLsub pLapp pLset pLcopy pLenOk pBytes pRep hF Ca hC r hr => ?_
  cbv
  refine callN hC h (fun m hm => ?_)
  cbv
  exact retN hr hm.symm
def orOf : List Int → Int
  | [] => 0
  | x :: l => if x = 0 then orOf l else x
theorem orOf_at : ∀ {l : List Int} {i : Nat}, i < l.length → l.getD i 0 ≠ 0 → (∀ j, j < i → l.getD j 0 = 0) → orOf l = l.getD i 0
  | x :: l, 0, _, h, _ => by rw [orOf, if_neg (by simpa using h)]; simp
  | x :: l, i + 1, hi, h, hj => by
    rw [orOf, if_pos (by simpa using hj 0 (by omega))]
    simpa using orOf_at (l := l) (i := i) (by simpa using hi) (by simpa using h) fun j hj' => by simpa using hj (j + 1) (by omega)
theorem orOf_none : ∀ {l : List Int}, (∀ j, j < l.length → l.getD j 0 = 0) → orOf l = 0
  | [], _ => rfl
  | x :: l, h => by
    rw [orOf, if_pos (by simpa using h 0 (by simp))]
    exact orOf_none fun j hj => by simpa using h (j + 1) (by simpa using hj)
theorem or_ok (l : List Int) (hl : l.length ≤ 1000) : CallOK Tryz.prog 137 [.c (.y (.sl 1 (l.map rowI)))] (N (orOf l)) := by
  obtain ⟨q, hq⟩ : ∃ q, q = orOf l := ⟨_, rfl⟩
  obtain ⟨xs, hx⟩ : ∃ xs, xs = l.map rowI := ⟨_, rfl⟩
  have hxl : xs.length = l.length := by rw [hx, List.length_map]
  rw [← hq, ← hx]
  obtain ⟨M, hM⟩ := mapEx
  try simp only [hM]
  refine go Tryz.func137 rfl rfl rfl rfl fun pAdd pSub pMul pQuo pRem pAnd pOr pXor pAndNot pShl pShr pNeg pCompl pConv pLt pLe pEq pSlt pSle pSeq pCat pCatOk pSlen pSsub pSat pIadd pIsub pBnot pBeq pImin pImax pLlen pLsub pLapp pLset pLcopy pLenOk pBytes pRep hF Ca hC r hr => ?_
  cbv
  refine loop_all (fun a st => st.n 8 (Int.ofNat a)) (fun i => decide (l.getD i 0 = 0)) l.length rfl (fun K' hK I i hi hp ih => ?_)
  cbv
  refine brkI (fun h => ?_) (fun h => ?_) <;> try cbv
  · have hs : i < l.length := hxl ▸ iltT hF h
    have e1 : pAdd .i64 (Int.ofNat i) 1 = Int.ofNat (i + 1) := add1Is hF (by omega)
    refine lgetM (fun u => [yN u]) (fun u => by simp only [rowI]) hx hs fun u hu => ?_
    cbv
    have hu' : l.getD i 0 = u := getD_of hs hu
    refine brkI (fun h => ?_) (fun h => ?_) <;> try cbv
    · conv => arg 1; cbv
      rw [e1]
      exact ih _ hs (by rw [hu']; exact decide_eq_true (eqT hF h)) rfl
    · refine hK _ _ ?_
      cbv
      refine retN hr (hq.trans ((orOf_at hs (by rw [hu']; exact eqF hF h) fun j hj => ?_).trans hu'))
      exact of_decide_eq_true (hp j hj)
  · have hs : i = l.length := Nat.le_antisymm hi (hxl ▸ iltF hF h)
    subst hs
    refine hK _ _ ?_
    cbv
    exact retN hr (hq.trans (orOf_none fun j hj => of_decide_eq_true (hp j hj)))
theorem cmpV_or (k n : Int) (s : ByteArray) (k' n' : Int) (s' : ByteArray) : cmpV k n s k' n' s' = orOf [cmpI k k', cmpI n n', cmpS s s'] := by
  simp only [orOf, cmpV, cmpI]
  grind
theorem iOne_ok (k n : Int) (s : ByteArray) (k' n' : Int) (s' : ByteArray) : CallOK Tryz.prog 125 [.agg [.y (yN k), .y (yN n), .y (yS s)], .agg [.y (yN k'), .y (yN n'), .y (yS s')]] (N (cmpV k n s k' n' s')) := by
  have h1 := cmpI_ok k k'
  have h2 := cmpI_ok n n'
  have h3 := cmpStr_ok s s'
  have h4 := or_ok [cmpI k k', cmpI n n', cmpS s s'] (by simp)
  rw [← cmpV_or] at h4
  obtain ⟨q, hq⟩ : ∃ q, q = cmpV k n s k' n' s' := ⟨_, rfl⟩
  obtain ⟨a, ha⟩ : ∃ q, q = cmpI k k' := ⟨_, rfl⟩
  obtain ⟨b, hb⟩ : ∃ q, q = cmpI n n' := ⟨_, rfl⟩
  obtain ⟨c, hc⟩ : ∃ q, q = cmpS s s' := ⟨_, rfl⟩
  rw [← ha] at h1 h4
  rw [← hb] at h2 h4
  rw [← hc] at h3 h4
  rw [← hq] at h4 ⊢
  clear ha hb hc hq
  obtain ⟨M, hM⟩ := mapEx
  try simp only [hM]
  refine go Tryz.func125 rfl rfl rfl rfl fun pAdd pSub pMul pQuo pRem pAnd pOr pXor pAndNot pShl pShr pNeg pCompl pConv pLt pLe pEq pSlt pSle pSeq pCat pCatOk pSlen pSsub pSat pIadd pIsub pBnot pBeq pImin pImax pLlen pLsub pLapp pLset pLcopy pLenOk pBytes pRep hF Ca hC r hr => ?_
  cbv
  refine callI hC h1 ?_
  cbv
  refine callI hC h2 ?_
  cbv
  refine callI hC h3 ?_
  cbv
  refine callI hC h4 ?_
  cbv
  exact hr.symm
/-! lists in order -/
def cmpAt (a b : List Val) (i : Nat) : Int := (a.getD i default).cmp (b.getD i default)
def cmpLs : List Val → List Val → Int
  | [], [] => 0
  | [], _ :: _ => -1
  | _ :: _, [] => 1
  | x :: a, y :: b => if x.cmp y = 0 then cmpLs a b else x.cmp y
theorem cmpLs_at : ∀ {a b : List Val} {i : Nat}, i < a.length → i < b.length → cmpAt a b i ≠ 0 → (∀ j, j < i → cmpAt a b j = 0) → cmpLs a b = cmpAt a b i
  | x :: a, y :: b, 0, _, _, h, _ => by rw [cmpLs, if_neg (by simpa [cmpAt] using h)]; simp [cmpAt]
  | x :: a, y :: b, i + 1, h1, h2, h, hj => by
    rw [cmpLs, if_pos (by simpa [cmpAt] using hj 0 (by omega))]
    simpa [cmpAt] using cmpLs_at (a := a) (b := b) (i := i) (by simpa using h1) (by simpa using h2) (by simpa [cmpAt] using h) fun j hj' => by simpa [cmpAt] using hj (j + 1) (by omega)
theorem cmpLs_end : ∀ {a b : List Val}, (∀ j, j < a.length → j < b.length → cmpAt a b j = 0) → cmpLs a b = if a.length < b.length then -1 else if b.length < a.length then 1 else 0
  | [], [], _ => by simp [cmpLs]
  | [], y :: b, _ => by simp [cmpLs]
  | x :: a, [], _ => by simp [cmpLs]
  | x :: a, y :: b, h => by
    rw [cmpLs, if_pos (by simpa [cmpAt] using h 0 (by simp) (by simp)), cmpLs_end (a := a) (b := b) fun j h1 h2 => by simpa [cmpAt] using h (j + 1) (by simpa using h1) (by simpa using h2)]
    simp
theorem sCmp_ok (a b : List Val) (ha : a.length ≤ maxLen) : CallOK Tryz.prog 95 [.c (.y (.sl 3 (a.map Val.row))), .c (.y (.sl 3 (b.map Val.row)))] (N (cmpLs a b)) := by
  rw [maxLen_is] at ha
  obtain ⟨q, hq⟩ : ∃ q, q = cmpLs a b := ⟨_, rfl⟩
  obtain ⟨xs, hx⟩ : ∃ xs, xs = a.map Val.row := ⟨_, rfl⟩
  have hxl : xs.length = a.length := by rw [hx, List.length_map]
  obtain ⟨ys, hy⟩ : ∃ ys, ys = b.map Val.row := ⟨_, rfl⟩
  have hyl : ys.length = b.length := by rw [hy, List.length_map]
  rw [← hq, ← hx, ← hy]
  obtain ⟨M, hM⟩ := mapEx
  try simp only [hM]
  refine go Tryz.func95 rfl rfl rfl rfl fun pAdd pSub pMul pQuo pRem pAnd pOr pXor pAndNot pShl pShr pNeg pCompl pConv pLt pLe pEq pSlt pSle pSeq pCat pCatOk pSlen pSsub pSat pIadd pIsub pBnot pBeq pImin pImax pLlen pLsub pLapp pLset pLcopy pLenOk pBytes pRep hF Ca hC r hr => ?_
  cbv
  have ex : pLlen xs = Int.ofNat a.length := by rw [← hxl]; exact llenIs hF xs
  have ey : pLlen ys = Int.ofNat b.length := by rw [← hyl]; exact llenIs hF ys
  refine loop_all (fun i st => st.n 5 (Int.ofNat i)) (fun i => decide (cmpAt a b i = 0)) (min a.length b.length) rfl (fun K' hK I i hi hp ih => ?_)
  cbv
  refine brkI (fun h => ?_) (fun h => ?_) <;> try cbv
  · have hs : i < a.length := hxl ▸ iltT hF h
    refine brkI (fun h => ?_) (fun h => ?_) <;> try cbv
    · have hs2 : i < b.length := hyl ▸ iltT hF h
      have e1 : pAdd .i64 (Int.ofNat i) 1 = Int.ofNat (i + 1) := add1Is hF (by omega)
      refine lgetM (fun u => [yN u.k, yN u.n, yS u.s]) (fun u => by simp only [Val.row, hM]) hx hs fun u hu => ?_
      cbv
      refine lgetM (fun u => [yN u.k, yN u.n, yS u.s]) (fun u => by simp only [Val.row, hM]) hy hs2 fun v hv => ?_
      cbv
      have hat : cmpAt a b i = cmpV u.k u.n u.s v.k v.n v.s := by rw [cmpAt, getD_of hs hu, getD_of hs2 hv]; rfl
      refine callN hC (sOne_ok u.k u.n u.s v.k v.n v.s) (fun c hc => ?_)
      cbv
      have hat := hat.trans hc.symm
      refine brkI (fun h => ?_) (fun h => ?_) <;> try cbv
      · conv => arg 1; cbv
        rw [e1]
        exact ih _ (by omega) (by rw [hat]; exact decide_eq_true (eqT hF h)) rfl
      · refine hK _ _ ?_
        cbv
        exact retN hr (hq.trans ((cmpLs_at hs hs2 (by rw [hat]; exact eqF hF h) fun j hj => of_decide_eq_true (hp j hj)).trans hat))
    · have hs2 : b.length ≤ i := hyl ▸ iltF hF h
      have he := hq.trans (cmpLs_end fun j h1 h2 => of_decide_eq_true (hp j (by omega)))
      refine hK _ _ ?_
      cbv
      repeat' (refine brkI (fun h => ?_) (fun h => ?_) <;> try cbv)
      all_goals
        refine retN hr (he.trans ?_)
        clear hK ih hC hr hq hp he
        have lD : ∀ a b, pLt a b = decide (a < b) := ltD hF
        have eD : ∀ a b, pLe a b = decide (a ≤ b) := leD hF
        have qD : ∀ a b, pEq a b = decide (a = b) := eqD hF
        have sD : ∀ a b, pSeq a b = decide (a = b) := seqD hF
        simp only [lD, eD, qD, sD, ex, ey, decide_eq_true_eq, decide_eq_false_iff_not] at *
        clear lD eD qD sD hF ex ey
        ((try simp only [Int.ofNat_eq_natCast] at *); omega)
  · have hs2 : a.length ≤ i := hxl ▸ iltF hF h
    have he := hq.trans (cmpLs_end fun j h1 h2 => of_decide_eq_true (hp j (by omega)))
    refine hK _ _ ?_
    cbv
    repeat' (refine brkI (fun h => ?_) (fun h => ?_) <;> try cbv)
    all_goals
      refine retN hr (he.trans ?_)
      clear hK ih hC hr hq hp he
      have lD : ∀ a b, pLt a b = decide (a < b) := ltD hF
      have eD : ∀ a b, pLe a b = decide (a ≤ b) := leD hF
      have qD : ∀ a b, pEq a b = decide (a = b) := eqD hF
      have sD : ∀ a b, pSeq a b = decide (a = b) := seqD hF
      simp only [lD, eD, qD, sD, ex, ey, decide_eq_true_eq, decide_eq_false_iff_not] at *
      clear lD eD qD sD hF ex ey
      ((try simp only [Int.ofNat_eq_natCast] at *); omega)
theorem iCmp_ok (a b : List Val) (ha : a.length ≤ maxLen) : CallOK Tryz.prog 124 [.c (.y (.sl 3 (a.map Val.row))), .c (.y (.sl 3 (b.map Val.row))), .c (.y (.sc (.func (.func 125) ⟨[]⟩ ⟨[]⟩)))] (N (cmpLs a b)) := by
  rw [maxLen_is] at ha
  obtain ⟨q, hq⟩ : ∃ q, q = cmpLs a b := ⟨_, rfl⟩
  obtain ⟨xs, hx⟩ : ∃ xs, xs = a.map Val.row := ⟨_, rfl⟩
  have hxl : xs.length = a.length := by rw [hx, List.length_map]
  obtain ⟨ys, hy⟩ : ∃ ys, ys = b.map Val.row := ⟨_, rfl⟩
  have hyl : ys.length = b.length := by rw [hy, List.length_map]
  rw [← hq, ← hx, ← hy]
  obtain ⟨M, hM⟩ := mapEx
  try simp only [hM]
  refine go Tryz.func124 rfl rfl rfl rfl fun pAdd pSub pMul pQuo pRem pAnd pOr pXor pAndNot pShl pShr pNeg pCompl pConv pLt pLe pEq pSlt pSle pSeq pCat pCatOk pSlen pSsub pSat pIadd pIsub pBnot pBeq pImin pImax pLlen pLsub pLapp pLset pLcopy pLenOk pBytes pRep hF Ca hC r hr => ?_
  cbv
  have ex : pLlen xs = Int.ofNat a.length := by rw [← hxl]; exact llenIs hF xs
  have ey : pLlen ys = Int.ofNat b.length := by rw [← hyl]; exact llenIs hF ys
  refine loop_all (fun i st => st.n 13 (Int.ofNat i)) (fun i => decide (cmpAt a b i = 0 ∧ i < b.length)) a.length rfl (fun K' hK I i hi hp ih => ?_)
  cbv
  refine brkI (fun h => ?_) (fun h => ?_) <;> try cbv
  · have hs : i < a.length := hxl ▸ iltT hF h
    have e1 : pAdd .i64 (Int.ofNat i) 1 = Int.ofNat (i + 1) := add1Is hF (by omega)
    refine lgetM (fun u => [yN u.k, yN u.n, yS u.s]) (fun u => by simp only [Val.row, hM]) hx hs fun u hu => ?_
    cbv
    refine brkI (fun h => ?_) (fun h => ?_) <;> try cbv
    · have hs2 : b.length ≤ i := by have := leT hF h; rw [ey] at this; ((try simp only [Int.ofNat_eq_natCast] at *); omega)
      have he := hq.trans (cmpLs_end fun j h1 h2 => (of_decide_eq_true (hp j (by omega))).1)
      refine hK _ _ ?_
      cbv
      exact retN hr (he.trans (by rw [if_neg (by omega), if_pos (by omega)]))
    · have hs2 : i < b.length := by have := leF hF h; rw [ey] at this; ((try simp only [Int.ofNat_eq_natCast] at *); omega)
      refine lgetM (fun u => [yN u.k, yN u.n, yS u.s]) (fun u => by simp only [Val.row, hM]) hy hs2 fun v hv => ?_
      cbv
      have hat : cmpAt a b i = cmpV u.k u.n u.s v.k v.n v.s := by rw [cmpAt, getD_of hs hu, getD_of hs2 hv]; rfl
      refine callN hC (iOne_ok u.k u.n u.s v.k v.n v.s) (fun c hc => ?_)
      cbv
      have hat := hat.trans hc.symm
      refine brkI (fun h => ?_) (fun h => ?_) <;> try cbv
      · conv => arg 1; cbv
        rw [e1]
        exact ih _ hs (by rw [hat]; exact decide_eq_true ⟨eqT hF h, hs2⟩) rfl
      · refine hK _ _ ?_
        cbv
        exact retN hr (hq.trans ((cmpLs_at hs hs2 (by rw [hat]; exact eqF hF h) fun j hj => (of_decide_eq_true (hp j hj)).1).trans hat))
  · have hs : i = a.length := Nat.le_antisymm hi (hxl ▸ iltF hF h)
    have hs2 : ∀ j, j < a.length → j < b.length := fun j hj => (of_decide_eq_true (hp j (by omega))).2
    have hs2 : a.length ≤ b.length := by
      have := hs2 (a.length - 1)
      omega
    have he := hq.trans (cmpLs_end fun j h1 h2 => (of_decide_eq_true (hp j (by omega))).1)
    refine hK _ _ ?_
    cbv
    repeat' (refine brkI (fun h => ?_) (fun h => ?_) <;> try cbv)
    all_goals
      refine retN hr (he.trans ?_)
      clear hK ih hC hr hq hp he
      have lD : ∀ a b, pLt a b = decide (a < b) := ltD hF
      have eD : ∀ a b, pLe a b = decide (a ≤ b) := leD hF
      have qD : ∀ a b, pEq a b = decide (a = b) := eqD hF
      have sD : ∀ a b, pSeq a b = decide (a = b) := seqD hF
      simp only [lD, eD, qD, sD, ex, ey, decide_eq_true_eq, decide_eq_false_iff_not] at *
      clear lD eD qD sD hF ex ey
      ((try simp only [Int.ofNat_eq_natCast] at *); omega)
theorem iCmp1_ok (a b : List Val) (ha : a.length ≤ maxLen) : CallOK Tryz.prog 100 [.c (.y (.sl 3 (a.map Val.row))), .c (.y (.sl 3 (b.map Val.row)))] (N (cmpLs a b)) := by
  have hc := iCmp_ok a b ha
  obtain ⟨q, hq⟩ : ∃ q, q = cmpLs a b := ⟨_, rfl⟩
  obtain ⟨xs, hx⟩ : ∃ xs, xs = a.map Val.row := ⟨_, rfl⟩
  obtain ⟨ys, hy⟩ : ∃ ys, ys = b.map Val.row := ⟨_, rfl⟩
  rw [← hq, ← hx, ← hy] at hc ⊢
  clear hq hx hy
  obtain ⟨M, hM⟩ := mapEx
  try simp only [hM]
  refine go Tryz.func100 rfl rfl rfl rfl fun pAdd pSub pMul pQuo pRem pAnd pOr pXor pAndNot pShl pShr pNeg pCompl pConv pLt pLe pEq pSlt pSle pSeq pCat pCatOk pSlen pSsub pSat pIadd pIsub pBnot pBeq pImin pImax pLlen pLsub pLapp pLset pLcopy pLenOk pBytes pRep hF Ca hC r hr => ?_
  cbv
  refine callI hC hc ?_
  cbv
  exact hr.symm
/-! both -/
def compare (a b : List Val) : Int := if valsRight a && valsRight b then cmpLs a b else 0
theorem valsRight_len {l : List Val} (h : valsRight l = true) : l.length ≤ 12 := by
  rw [valsRight, Bool.and_eq_true] at h
  exact of_decide_eq_true h.1
end Go.Proofs.YtemfaiabbonpnaaGreatDoor
