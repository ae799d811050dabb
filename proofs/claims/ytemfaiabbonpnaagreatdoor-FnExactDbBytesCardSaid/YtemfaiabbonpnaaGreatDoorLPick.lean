/- Functions of the program, each with what it returns, run by the evaluator; the conditions stand in the theorems. -/
import Derived.Test.YtemfaiabbonpnaaGreatDoorLVal
namespace Go.Proofs.YtemfaiabbonpnaaGreatDoor
open Go Go.Proofs.YtemfaiabbonpnaaGreatDoorW Go.Proofs
set_option linter.unusedVariables false
set_option linter.unusedSimpArgs false
set_option maxRecDepth 100000
set_option maxHeartbeats 8000000
theorem appOk {F : Prims} (hF : prims = F) {xs ys : List (List Y)} (h : xs.length + ys.length ≤ 4294967296) : F.lenOk (F.iadd (F.llen xs) (F.llen ys)) = true := by
  subst hF; exact decide_eq_true (by show (xs.length : Int) + (ys.length : Int) ≤ 4294967296; omega)
theorem lappRow {F : Prims} (hF : prims = F) {α : Type} {row : α → List Y} {l : List α} {xs : List (List Y)} (hx : xs = l.map row) (v : α) : F.lapp xs [row v] = (l ++ [v]).map row := by
  subst hF hx; show l.map row ++ [row v] = _; rw [List.map_append]; rfl
def pickTo (row : List Val) (cols : List Int) : Nat → List Val
  | 0 => []
  | n + 1 => pickTo row cols n ++ [row.getD (cols.getD n 0).toNat default]
theorem pickTo_len (row : List Val) (cols : List Int) : ∀ n, (pickTo row cols n).length = n
  | 0 => rfl
  | n + 1 => by rw [pickTo, List.length_append, pickTo_len row cols n]; rfl
def placeAt (row : List Val) (cols : List Int) (i : Nat) : Bool := decide (0 ≤ cols.getD i 0) && decide (cols.getD i 0 < Int.ofNat row.length)
def pickOk (row : List Val) (cols : List Int) : Bool := valsRight row && decide (cols.length ≤ 10) && allTo (placeAt row cols) cols.length
def pick (row : List Val) (cols : List Int) : List Val := if pickOk row cols then pickTo row cols cols.length else []
theorem pick_t {row : List Val} {cols : List Int} (h : pickOk row cols = true) : pick row cols = pickTo row cols cols.length := ite_t h
theorem pick_f {row : List Val} {cols : List Int} (h : pickOk row cols = false) : pick row cols = [] := ite_f h
theorem pickOk_1 {row : List Val} {cols : List Int} (h : valsRight row = false) : pickOk row cols = false := by rw [pickOk, h]; rfl
theorem pickOk_2 {row : List Val} {cols : List Int} (h : 10 < cols.length) : pickOk row cols = false := by rw [pickOk, decide_eq_false (p := cols.length ≤ 10) (by omega), Bool.and_false]; rfl
theorem pickOk_3 {row : List Val} {cols : List Int} {i : Nat} (h : i < cols.length) (hp : placeAt row cols i = false) : pickOk row cols = false := by rw [pickOk, allTo_false h hp, Bool.and_false]
theorem placeAt_is {row : List Val} {cols : List Int} {i : Nat} (h : placeAt row cols i = true) : 0 ≤ cols.getD i 0 ∧ cols.getD i 0 < Int.ofNat row.length := by
  simp only [placeAt, Bool.and_eq_true, decide_eq_true_eq] at h; exact h
theorem pickOk_len {row : List Val} {cols : List Int} (h : pickOk row cols = true) : row.length ≤ 12 ∧ cols.length ≤ 10 := by
  simp only [pickOk, valsRight, Bool.and_eq_true, decide_eq_true_eq] at h
  exact ⟨h.1.1.1, h.1.2⟩
theorem l03Pick_ok (row : List Val) (cols : List Int) (hc : cols.length ≤ 1048576) (hp : ∀ i, i < cols.length → placeAt row cols i = true) : CallOK Tryz.prog 123 [.c (.y (.sl 3 (row.map Val.row))), .c (.y (.sl 1 (cols.map rowI)))] ⟨.c (.own 3 ((pickTo row cols cols.length).map Val.row)), []⟩ := by
  obtain ⟨q, hq⟩ : ∃ q, q = (pickTo row cols cols.length).map Val.row := ⟨_, rfl⟩
  obtain ⟨xs, hx⟩ : ∃ xs, xs = row.map Val.row := ⟨_, rfl⟩
  have hxl : xs.length = row.length := by rw [hx, List.length_map]
  obtain ⟨ks, hks⟩ : ∃ ks, ks = cols.map rowI := ⟨_, rfl⟩
  have hkl : ks.length = cols.length := by rw [hks, List.length_map]
  rw [← hq, ← hx, ← hks]
  obtain ⟨M, hM⟩ := mapEx
  try simp only [hM]
  refine go Tryz.func123 rfl rfl rfl rfl fun pAdd pSub pMul pQuo pRem pAnd pOr pXor pAndNot pShl pShr pNeg pCompl pConv pLt pLe pEq pSlt pSle pSeq pCat pCatOk pSlen pSsub pSat pIadd pIsub pBnot pBeq pImin pImax pLlen pLsub pLapp pLset pLcopy pLenOk pBytes pRep hF Ca hC r hr => ?_
  cbv
  refine loop_u (α := Nat × List (List Y)) (fun a st => (st.n 6 (Int.ofNat a.1)).ob 5001 (.ar 3 a.2)) (fun a => a.1 ≤ cols.length ∧ a.2 = (pickTo row cols a.1).map Val.row) (fun a => cols.length - a.1) (0, []) rfl ⟨by omega, rfl⟩ (fun K' hK I a hi ih => ?_)
  obtain ⟨i, zs⟩ := a
  obtain ⟨hi, hz⟩ := hi
  dsimp only at hi hz
  have hzl : zs.length = i := by rw [hz, List.length_map, pickTo_len]
  cbv
  refine brkI (fun h => ?_) (fun h => ?_) <;> try cbv
  · have hs : i < cols.length := hkl ▸ iltT hF h
    have e1 : pAdd .i64 (Int.ofNat i) 1 = Int.ofNat (i + 1) := add1Is hF (by omega)
    refine lgetM (fun u => [yN u]) (fun u => by simp only [rowI]) hks hs fun c hc' => ?_
    cbv
    have hp' := placeAt_is (hp i hs)
    rw [getD_of hs hc'] at hp'
    obtain ⟨j, hj⟩ := Int.eq_ofNat_of_zero_le hp'.1
    have hj : c = Int.ofNat j := hj
    have hjl : j < row.length := by have := hp'.2; rw [hj] at this; exact Int.ofNat_lt.1 this
    rw [hj]
    refine lgetM (fun u => [yN u.k, yN u.n, yS u.s]) (fun u => by simp only [Val.row, hM]) hx hjl fun u hu => ?_
    cbv
    refine brT (appOk hF (by simp; omega)) ?_
    try cbv
    conv => arg 1; cbv
    rw [e1]
    have e2 : pLapp zs [[yN u.k, yN u.n, yS u.s]] = (pickTo row cols (i + 1)).map Val.row := by
      have := lappRow hF hz u
      rw [pickTo, getD_of hs hc', hj, show row.getD (Int.ofNat j).toNat default = u from getD_of hjl hu]
      exact this
    exact ih (i + 1, _) _ ⟨hs, e2⟩ (by dsimp only; omega) rfl
  · have hs : i = cols.length := Nat.le_antisymm hi (hkl ▸ iltF hF h)
    subst hs
    refine hK _ _ ?_
    cbv
    rw [hr, hq, hz]
theorem ipick_ok (row : List Val) (cols : List Int) (hc : cols.length ≤ 1048576) (hp : ∀ i, i < cols.length → placeAt row cols i = true) : CallOK Tryz.prog 126 [.c (.y (.sl 3 (row.map Val.row))), .c (.y (.sl 1 (cols.map rowI)))] ⟨.c (.own 3 ((pickTo row cols cols.length).map Val.row)), []⟩ := by
  obtain ⟨q, hq⟩ : ∃ q, q = (pickTo row cols cols.length).map Val.row := ⟨_, rfl⟩
  obtain ⟨xs, hx⟩ : ∃ xs, xs = row.map Val.row := ⟨_, rfl⟩
  have hxl : xs.length = row.length := by rw [hx, List.length_map]
  obtain ⟨ks, hks⟩ : ∃ ks, ks = cols.map rowI := ⟨_, rfl⟩
  have hkl : ks.length = cols.length := by rw [hks, List.length_map]
  rw [← hq, ← hx, ← hks]
  obtain ⟨M, hM⟩ := mapEx
  try simp only [hM]
  refine go Tryz.func126 rfl rfl rfl rfl fun pAdd pSub pMul pQuo pRem pAnd pOr pXor pAndNot pShl pShr pNeg pCompl pConv pLt pLe pEq pSlt pSle pSeq pCat pCatOk pSlen pSsub pSat pIadd pIsub pBnot pBeq pImin pImax pLlen pLsub pLapp pLset pLcopy pLenOk pBytes pRep hF Ca hC r hr => ?_
  cbv
  refine loop_u (α := Nat × List (List Y)) (fun a st => (st.n 11 (Int.ofNat a.1)).ob 5001 (.ar 3 a.2)) (fun a => a.1 ≤ cols.length ∧ a.2 = (pickTo row cols a.1).map Val.row) (fun a => cols.length - a.1) (0, []) rfl ⟨by omega, rfl⟩ (fun K' hK I a hi ih => ?_)
  obtain ⟨i, zs⟩ := a
  obtain ⟨hi, hz⟩ := hi
  dsimp only at hi hz
  have hzl : zs.length = i := by rw [hz, List.length_map, pickTo_len]
  cbv
  refine brkI (fun h => ?_) (fun h => ?_) <;> try cbv
  · have hs : i < cols.length := hkl ▸ iltT hF h
    have e1 : pAdd .i64 (Int.ofNat i) 1 = Int.ofNat (i + 1) := add1Is hF (by omega)
    refine lgetM (fun u => [yN u]) (fun u => by simp only [rowI]) hks hs fun c hc' => ?_
    cbv
    have hp' := placeAt_is (hp i hs)
    rw [getD_of hs hc'] at hp'
    obtain ⟨j, hj⟩ := Int.eq_ofNat_of_zero_le hp'.1
    have hj : c = Int.ofNat j := hj
    have hjl : j < row.length := by have := hp'.2; rw [hj] at this; exact Int.ofNat_lt.1 this
    rw [hj]
    refine lgetM (fun u => [yN u.k, yN u.n, yS u.s]) (fun u => by simp only [Val.row, hM]) hx hjl fun u hu => ?_
    cbv
    refine brT (appOk hF (by simp; omega)) ?_
    try cbv
    conv => arg 1; cbv
    rw [e1]
    have e2 : pLapp zs [[yN u.k, yN u.n, yS u.s]] = (pickTo row cols (i + 1)).map Val.row := by
      have := lappRow hF hz u
      rw [pickTo, getD_of hs hc', hj, show row.getD (Int.ofNat j).toNat default = u from getD_of hjl hu]
      exact this
    exact ih (i + 1, _) _ ⟨hs, e2⟩ (by dsimp only; omega) rfl
  · have hs : i = cols.length := Nat.le_antisymm hi (hkl ▸ iltF hF h)
    subst hs
    refine hK _ _ ?_
    cbv
    rw [hr, hq, hz]
theorem pick_small {row : List Val} {cols : List Int} : (pick row cols).length ≤ 1048576 := by
  cases h : pickOk row cols with
  | false => rw [pick_f h]; simp
  | true => rw [pick_t h, pickTo_len]; have := pickOk_len h; omega
end Go.Proofs.YtemfaiabbonpnaaGreatDoor
