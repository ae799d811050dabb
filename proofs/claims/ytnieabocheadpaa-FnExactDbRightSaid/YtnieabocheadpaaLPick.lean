/- Functions of the program, each with what it returns, run by the evaluator; the conditions stand in the theorems. -/
import Derived.Test.YtnieabocheadpaaLVal
namespace Go.Proofs.Ytnieabocheadpaa
open Go Go.Proofs.YtnieabocheadpaaW Go.Proofs
set_option linter.unusedVariables false
set_option linter.unusedSimpArgs false
set_option maxRecDepth 100000
set_option maxHeartbeats 8000000
theorem appOk {F : Prims} (hF : prims = F) {xs ys : List (List Y)} (h : xs.length + ys.length ≤ 4294967296) : F.lenOk (F.iadd (F.llen xs) (F.llen ys)) = true := by
  subst hF; exact decide_eq_true (by show (xs.length : Int) + (ys.length : Int) ≤ 4294967296; omega)
theorem lappRow {F : Prims} (hF : prims = F) {α : Type} {row : α → List Y} {l : List α} {xs : List (List Y)} (hx : xs = l.map row) (v : α) : F.lapp xs [row v] = (l ++ [v]).map row := by
  subst hF hx; show l.map row ++ [row v] = _; rw [List.map_append]; rfl
def pickTo (row : List Val) (cols : List Int) : Nat → List Val
  | 0 => []
  | n + 1 => pickTo row cols n ++ [row.getD (cols.getD n 0).toNat default]
theorem pickTo_len (row : List Val) (cols : List Int) : ∀ n, (pickTo row cols n).length = n
  | 0 => rfl
  | n + 1 => by rw [pickTo, List.length_append, pickTo_len row cols n]; rfl
def placeAt (row : List Val) (cols : List Int) (i : Nat) : Bool := decide (0 ≤ cols.getD i 0) && decide (cols.getD i 0 < Int.ofNat row.length)
def pickOk (row : List Val) (cols : List Int) : Bool := valsRight row && decide (cols.length ≤ 10) && allTo (placeAt row cols) cols.length
def pick (row : List Val) (cols : List Int) : List Val := if pickOk row cols then pickTo row cols cols.length else []
theorem pick_t {row : List Val} {cols : List Int} (h : pickOk row cols = true) : pick row cols = pickTo row cols cols.length := ite_t h
theorem pick_f {row : List Val} {cols : List Int} (h : pickOk row cols = false) : pick row cols = [] := ite_f h
theorem pickOk_1 {row : List Val} {cols : List Int} (h : valsRight row = false) : pickOk row cols = false := by rw [pickOk, h]; rfl
theorem pickOk_2 {row : List Val} {cols : List Int} (h : 10 < cols.length) : pickOk row cols = false := by rw [pickOk, decide_eq_false (p := cols.length ≤ 10) (by omega), Bool.and_false]; rfl
theorem pickOk_3 {row : List Val} {cols : List Int} {i : Nat} (h : i < cols.length) (hp : placeAt row cols i = false) : pickOk row cols = false := by rw [pickOk, allTo_false h hp, Bool.and_false]
theorem placeAt_is {row : List Val} {cols : List Int} {i : Nat} (h : placeAt row cols i = true) : 0 ≤ cols.getD i 0 ∧ cols.getD i 0 < Int.ofNat row.length := by
  simp only [placeAt, Bool.and_eq_true, decide_eq_true_eq] at h; exact h
theorem pickOk_len {row : List Val} {cols : List Int} (h : pickOk row cols = true) : row.length ≤ 12 ∧ cols.length ≤ 10 := by
  simp only [pickOk, valsRight, Bool.and_eq_true, decide_eq_true_eq] at h
  exact ⟨h.1.1.1, h.1.2⟩
theorem l03Pick_ok (row : List Val) (cols : List Int) (hc : cols.length ≤ 1048576) (hp : ∀ i, i < cols.length → placeAt row cols i = true) : CallOK Try.prog 93 [.c (.y (.sl 3 (row.map Val.row))), .c (.y (.sl 1 (cols.map rowI)))] ⟨.c (.own 3 ((pickTo row cols cols.length).map Val.row)), []⟩ := by
  obtain ⟨q, hq⟩ : ∃ q, q = (pickTo row cols cols.length).map Val.row := ⟨_, rfl⟩
  obtain ⟨xs, hx⟩ : ∃ xs, xs = row.map Val.row := ⟨_, rfl⟩
  have hxl : xs.length = row.length := by rw [hx, List.length_map]
  obtain ⟨ks, hks⟩ : ∃ ks, ks = cols.map rowI := ⟨_, rfl⟩
  have hkl : ks.length = cols.length := by rw [hks, List.length_map]
  rw [← hq, ← hx, ← hks]
  obtain ⟨M, hM⟩ := mapEx
  try simp only [hM]
  refine go Try.func93 rfl rfl rfl rfl fun pAdd pSub pMul pQuo pRem pAnd pOr pXor pAndNot pShl pShr pNeg pCompl pConv pLt pLe pEq pSlt pSle pSeq pCat pCatOk pSlen pSsub pSat pIadd pIsub pBnot pBeq pImin pImax pLlen pLsub pLapp pLset pLcopy pLenOk pBytes pRep hF Ca hC r hr => ?_
  cbv
  refine loop_u (α := Nat × List (List Y)) (fun a st => (st.n 6 (Int.ofNat a.1)).ob 5001 (.ar 3 a.2)) (fun a => a.1 ≤ cols.length ∧ a.2 = (pickTo row cols a.1).map Val.row) (fun a => cols.length - a.1) (0, []) rfl ⟨by omega, rfl⟩ (fun K' hK I a hi ih => ?_)
  obtain ⟨i, zs⟩ := a
  obtain ⟨hi, hz⟩ := hi
  dsimp only at hi hz
  have hzl : zs.length = i := by rw [hz, List.length_map, pickTo_len]
  cbv
  refine brkI (fun h => ?_) (fun h => ?_) <;> try cbv
  · have hs : i < cols.length := hkl ▸ iltT hF h
    have e1 : pAdd .i64 (Int.ofNat i) 1 = Int.ofNat (i + 1) := add1Is hF (by omega)
    refine lgetM (fun u => [yN u]) (fun u => by simp only [rowI]) hks hs fun c hc' => ?_
    cbv
    have hp' := placeAt_is (hp i hs)
    rw [getD_of hs hc'] at hp'
    obtain ⟨j, hj⟩ := Int.eq_ofNat_of_zero_le hp'.1
    have hj : c = Int.ofNat j := hj
    have hjl : j < row.length := by have := hp'.2; rw [hj] at this; exact Int.ofNat_lt.1 this
    rw [hj]
    refine lgetM (fun u => [yN u.k, yN u.n, yS u.s]) (fun u => by simp only [Val.row, hM]) hx hjl fun u hu => ?_
    cbv
    refine brT (appOk hF (by simp; omega)) ?_
    try cbv
    conv => arg 1; cbv
    rw [e1]
    have e2 : pLapp zs [[yN u.k, yN u.n, yS u.s]] = (pickTo row cols (i + 1)).map Val.row := by
      have := lappRow hF hz u
      rw [pickTo, getD_of hs hc', hj, show row.getD (Int.ofNat j).toNat default = u from getD_of hjl hu]
      exact this
    exact ih (i + 1, _) _ ⟨hs, e2⟩ (by dsimp only; omega) rfl
  · have hs : i = cols.length := Nat.le_antisymm hi (hkl ▸ iltF hF h)
    subst hs
    refine hK _ _ ?_
    cbv
    rw [hr, hq, hz]
theorem ipick_ok (row : List Val) (cols : List Int) (hc : cols.length ≤ 1048576) (hp : ∀ i, i < cols.length → placeAt row cols i = true) : CallOK Try.prog 96 [.c (.y (.sl 3 (row.map Val.row))), .c (.y (.sl 1 (cols.map rowI)))] ⟨.c (.own 3 ((pickTo row cols cols.length).map Val.row)), []⟩ := by
  obtain ⟨q, hq⟩ : ∃ q, q = (pickTo row cols cols.length).map Val.row := ⟨_, rfl⟩
  obtain ⟨xs, hx⟩ : ∃ xs, xs = row.map Val.row := ⟨_, rfl⟩
  have hxl : xs.length = row.length := by rw [hx, List.length_map]
  obtain ⟨ks, hks⟩ : ∃ ks, ks = cols.map rowI := ⟨_, rfl⟩
  have hkl : ks.length = cols.length := by rw [hks, List.length_map]
  rw [← hq, ← hx, ← hks]
  obtain ⟨M, hM⟩ := mapEx
  try simp only [hM]
  refine go Try.func96 rfl rfl rfl rfl fun pAdd pSub pMul pQuo pRem pAnd pOr pXor pAndNot pShl pShr pNeg pCompl pConv pLt pLe pEq pSlt pSle pSeq pCat pCatOk pSlen pSsub pSat pIadd pIsub pBnot pBeq pImin pImax pLlen pLsub pLapp pLset pLcopy pLenOk pBytes pRep hF Ca hC r hr => ?_
  cbv
  refine loop_u (α := Nat × List (List Y)) (fun a st => (st.n 11 (Int.ofNat a.1)).ob 5001 (.ar 3 a.2)) (fun a => a.1 ≤ cols.length ∧ a.2 = (pickTo row cols a.1).map Val.row) (fun a => cols.length - a.1) (0, []) rfl ⟨by omega, rfl⟩ (fun K' hK I a hi ih => ?_)
  obtain ⟨i, zs⟩ := a
  obtain ⟨hi, hz⟩ := hi
  dsimp only at hi hz
  have hzl : zs.length = i := by rw [hz, List.length_map, pickTo_len]
  cbv
  refine brkI (fun h => ?_) (fun h => ?_) <;> try cbv
  · have hs : i < cols.length := hkl ▸ iltT hF h
    have e1 : pAdd .i64 (Int.ofNat i) 1 = Int.ofNat (i + 1) := add1Is hF (by omega)
    refine lgetM (fun u => [yN u]) (fun u => by simp only [rowI]) hks hs fun c hc' => ?_
    cbv
    have hp' := placeAt_is (hp i hs)
    rw [getD_of hs hc'] at hp'
    obtain ⟨j, hj⟩ := Int.eq_ofNat_of_zero_le hp'.1
    have hj : c = Int.ofNat j := hj
    have hjl : j < row.length := by have := hp'.2; rw [hj] at this; exact Int.ofNat_lt.1 this
    rw [hj]
    refine lgetM (fun u => [yN u.k, yN u.n, yS u.s]) (fun u => by simp only [Val.row, hM]) hx hjl fun u hu => ?_
    cbv
    refine brT (appOk hF (by simp; omega)) ?_
    try cbv
    conv => arg 1; cbv
    rw [e1]
    have e2 : pLapp zs [[yN u.k, yN u.n, yS u.s]] = (pickTo row cols (i + 1)).map Val.row := by
      have := lappRow hF hz u
      rw [pickTo, getD_of hs hc', hj, show row.getD (Int.ofNat j).toNat default = u from getD_of hjl hu]
      exact this
    exact ih (i + 1, _) _ ⟨hs, e2⟩ (by dsimp only; omega) rfl
  · have hs : i = cols.length := Nat.le_antisymm hi (hkl ▸ iltF hF h)
    subst hs
    refine hK _ _ ?_
    cbv
    rw [hr, hq, hz]
theorem sPick_ok (row : List Val) (cols : List Int) (hl : row.length ≤ maxLen) (hl2 : cols.length ≤ maxLen) : CallOK Try.prog 41 [.c (.y (.sl 3 (row.map Val.row))), .c (.y (.sl 1 (cols.map rowI)))] ⟨.c (.own 3 ((pick row cols).map Val.row)), []⟩ := by
  rw [maxLen_is] at hl hl2
  have c1 := sValuesRight_ok row
  have c2 := fun (h1 : cols.length ≤ 10) h2 => l03Pick_ok row cols (Nat.le_trans h1 (by decide)) h2
  obtain ⟨p, hp⟩ : ∃ p, p = pick row cols := ⟨_, rfl⟩
  obtain ⟨xs, hx⟩ : ∃ xs, xs = row.map Val.row := ⟨_, rfl⟩
  have hxl : xs.length = row.length := by rw [hx, List.length_map]
  obtain ⟨ks, hks⟩ : ∃ ks, ks = cols.map rowI := ⟨_, rfl⟩
  have hkl : ks.length = cols.length := by rw [hks, List.length_map]
  rw [← hp, ← hx, ← hks]
  rw [← hx] at c1
  rw [← hx, ← hks] at c2
  obtain ⟨M, hM⟩ := mapEx
  try simp only [hM]
  refine go Try.func41 rfl rfl rfl rfl fun pAdd pSub pMul pQuo pRem pAnd pOr pXor pAndNot pShl pShr pNeg pCompl pConv pLt pLe pEq pSlt pSle pSeq pCat pCatOk pSlen pSsub pSat pIadd pIsub pBnot pBeq pImin pImax pLlen pLsub pLapp pLset pLcopy pLenOk pBytes pRep hF Ca hC r hr => ?_
  cbv
  have e1 : pLlen xs = Int.ofNat row.length := by rw [← hxl]; exact llenIs hF xs
  have e2 : pLlen ks = Int.ofNat cols.length := by rw [← hkl]; exact llenIs hF ks
  have bad : pickOk row cols = false → ⟨.c (.own 3 []), []⟩ = r := fun h => by rw [hr, hp, pick_f h, ← hM]; rfl
  refine brkI (fun h => ?_) (fun h => ?_) <;> try cbv
  · have h := ltT hF h
    rw [e1] at h
    refine bad ?_
    cases ho : pickOk row cols with
    | false => rfl
    | true => have := pickOk_len ho; exact absurd h (by ((try simp only [Int.ofNat_eq_natCast] at *); omega))
  refine brkI (fun h => ?_) (fun h => ?_) <;> try cbv
  · have h := ltT hF h
    rw [e2] at h
    exact bad (pickOk_2 (by ((try simp only [Int.ofNat_eq_natCast] at *); omega)))
  refine callB hC c1 (fun h1 => ?_) (fun h1 => ?_) <;> try cbv
  rotate_left
  · exact bad (pickOk_1 h1)
  refine brkI (fun h => ?_) (fun h => ?_) <;> try cbv
  · have h := ltT hF h
    rw [e2] at h
    exact bad (pickOk_2 (by ((try simp only [Int.ofNat_eq_natCast] at *); omega)))
  have h10 := ltF hF h
  rw [e2] at h10
  have h10 : cols.length ≤ 10 := by ((try simp only [Int.ofNat_eq_natCast] at *); omega)
  refine loop_all (fun a st => st.n 5 (Int.ofNat a)) (placeAt row cols) cols.length rfl (fun K' hK I i hi hpp ih => ?_)
  cbv
  refine brkI (fun h => ?_) (fun h => ?_) <;> try cbv
  · have hs : i < cols.length := hkl ▸ iltT hF h
    have e3 : pAdd .i64 (Int.ofNat i) 1 = Int.ofNat (i + 1) := add1Is hF (by omega)
    obtain ⟨c, hc⟩ : ∃ c, c = cols[i] := ⟨_, rfl⟩
    have hat : placeAt row cols i = (decide (0 ≤ c) && decide (c < Int.ofNat row.length)) := by rw [placeAt, getD_of hs hc]
    repeat' (first
      | (refine lgetM (fun u => [yN u]) (fun u => by simp only [rowI]) hks hs fun v hv => ?_; rw [show v = c from hv.trans hc.symm]; cbv)
      | (refine brkI (fun h3 => ?_) (fun h3 => ?_) <;> try cbv))
    all_goals first
      | (conv => arg 1; cbv
         rw [e3]
         refine ih _ hs (hat.trans ?_) rfl)
      | (refine hK _ _ ?_
         cbv
         refine bad (pickOk_3 hs (hat.trans ?_)))
    all_goals
      clear hK ih hC hr hpp hc hat c1 c2 bad
      have lD : ∀ a b, pLt a b = decide (a < b) := ltD hF
      have eD : ∀ a b, pLe a b = decide (a ≤ b) := leD hF
      have qD : ∀ a b, pEq a b = decide (a = b) := eqD hF
      have sD : ∀ a b, pSeq a b = decide (a = b) := seqD hF
      simp only [lD, eD, qD, e1, e2] at *
      clear lD eD qD sD hF
      (first | (simp only [Bool.or_eq_true, Bool.and_eq_true, Bool.not_eq_true', Bool.or_eq_false_iff, Bool.and_eq_false_iff, Bool.not_eq_false', decide_eq_true_eq, decide_eq_false_iff_not, Bool.not_false, Bool.not_true, Bool.and_true, Bool.true_and, Bool.or_false, Bool.false_or, and_true, true_and, Int.ofNat_eq_natCast] at *; omega) | (simp only [Bool.eq_false_iff, ne_eq, Bool.or_eq_true, Bool.and_eq_true, Bool.not_eq_true', decide_eq_true_eq, decide_eq_false_iff_not, Bool.not_false, Bool.not_true, Bool.and_true, Bool.true_and, Bool.or_false, Bool.false_or, and_true, true_and, Int.ofNat_eq_natCast] at *; omega) | (simp only [Bool.or_eq_true, Bool.and_eq_true, Bool.not_eq_true', Bool.or_eq_false_iff, Bool.and_eq_false_iff, Bool.not_eq_false', decide_eq_true_eq, decide_eq_false_iff_not, Bool.not_false, Bool.not_true, Bool.and_true, Bool.true_and, Bool.or_false, Bool.false_or, and_true, true_and, Int.ofNat_eq_natCast] at *; grind) | grind)
  · have hs : i = cols.length := Nat.le_antisymm hi (hkl ▸ iltF hF h)
    subst hs
    have ok : pickOk row cols = true := by rw [pickOk, h1, decide_eq_true h10, allTo_iff.2 hpp]; rfl
    refine hK _ _ ?_
    cbv
    refine callI hC (by have hh := c2 h10 hpp; (try simp only [hM] at hh); exact hh) ?_
    cbv
    rw [hr, hp, pick_t ok]
theorem pick_small {row : List Val} {cols : List Int} : (pick row cols).length ≤ 1048576 := by
  cases h : pickOk row cols with
  | false => rw [pick_f h]; simp
  | true => rw [pick_t h, pickTo_len]; have := pickOk_len h; omega
end Go.Proofs.Ytnieabocheadpaa
