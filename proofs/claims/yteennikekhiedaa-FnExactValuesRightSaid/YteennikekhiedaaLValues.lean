/- Functions of the program, each with what it returns, run by the evaluator; the conditions stand in the theorems. -/
import Derived.Test.YteennikekhiedaaLValue
namespace Go.Proofs.Yteennikekhiedaa
open Go Go.Proofs.YteennikekhiedaaW Go.Proofs
set_option linter.unusedVariables false
set_option maxRecDepth 100000
set_option maxHeartbeats 8000000
/-- A value, and its row. -/
structure Val where
  k : Int
  n : Int
  s : ByteArray
def Val.row (v : Val) : List Y := [yN v.k, yN v.n, yS v.s]
def Val.right (v : Val) : Bool := valueRight v.k v.n v.s
abbrev aVs (xs : List (List Y)) : A := .c (.y (.sl 3 xs))
theorem sValuesRight_ok (l : List Val) : CallOK Try.prog 38 [aVs (l.map Val.row)] (B (decide (l.length ≤ 12) && l.all Val.right)) := by
  obtain ⟨xs, hx⟩ : ∃ xs, xs = l.map Val.row := ⟨_, rfl⟩
  rw [← hx]
  refine go Try.func38 rfl rfl rfl rfl fun pAdd pSub pMul pQuo pRem pAnd pOr pXor pAndNot pShl pShr pNeg pCompl pConv pLt pLe pEq pSlt pSle pSeq pCat pCatOk pSlen pSsub pSat pIadd pIsub pBnot pBeq pImin pImax pLlen pLsub pLapp pLset pLcopy pLenOk pBytes pRep hF Ca hC r hr => ?_
  cbv
  refine brkI (fun h => ?_) (fun h => ?_) <;> try cbv
  · have h' : 12 < l.length := by cases hF; subst hx; have := Int.ofNat_lt.1 (lt_t h); rwa [List.length_map] at this
    rw [hr, decide_eq_false (by omega)]; rfl
  · have h' : l.length ≤ 12 := by cases hF; subst hx; have := Int.ofNat_le.1 (lt_f h); rwa [List.length_map] at this
    refine loop_at (α := Nat) (fun a => ⟨[(0, .c (.y (.sl 3 xs))), (3, .c (.y (.sc (.int .i64 a))))], []⟩)
      (fun a => a ≤ l.length ∧ (l.take a).all Val.right = true) (fun a => l.length - a) 0 rfl ⟨by omega, rfl⟩ (fun I i hi ih => ?_)
    obtain ⟨hi, hq⟩ := hi
    cbv
    refine brkI (fun h => ?_) (fun h => ?_) <;> try cbv
    · have hs : i < l.length := by cases hF; subst hx; have := Int.ofNat_lt.1 (lt_t h); rwa [List.length_map] at this
      obtain ⟨⟨k, n, s⟩, hu⟩ : ∃ u, u = l[i] := ⟨_, rfl⟩
      refine lget (x := [yN k, yN n, yS s]) (by rw [hx, List.getElem?_map, List.getElem?_eq_getElem hs, ← hu]; rfl) ?_
      cbv
      refine callB hC (sValueRight_ok _ _ _) (fun h1 => ?_) (fun h1 => ?_) <;> cbv
      · have e1 : pAdd .i64 (Int.ofNat i) 1 = Int.ofNat (i + 1) := by cases hF; exact add1 (by omega)
        conv => arg 1; cbv
        rw [e1]
        refine ih (i + 1) ⟨hs, ?_⟩ (by omega)
        rw [List.take_succ_eq_append_getElem hs, List.all_append, hq, ← hu]
        simpa [Val.right] using h1
      · have : l.all Val.right = false := List.all_eq_false.2 ⟨l[i], List.getElem_mem hs, by rw [← hu]; simpa [Val.right] using h1⟩
        rw [hr, this, Bool.and_false]
    · have hs : i = l.length := by cases hF; subst hx; have := Int.ofNat_le.1 (lt_f h); rw [List.length_map] at this; exact Nat.le_antisymm hi this
      subst hs
      rw [List.take_length] at hq
      rw [hr, hq, decide_eq_true h']; rfl
theorem notRight_ok (k n : Int) (s : ByteArray) : CallOK Try.prog 52 [.agg [.y (yN k), .y (yN n), .y (yS s)]] (B (!valueRight k n s)) := by
  refine go Try.func52 rfl rfl rfl rfl fun pAdd pSub pMul pQuo pRem pAnd pOr pXor pAndNot pShl pShr pNeg pCompl pConv pLt pLe pEq pSlt pSle pSeq pCat pCatOk pSlen pSsub pSat pIadd pIsub pBnot pBeq pImin pImax pLlen pLsub pLapp pLset pLcopy pLenOk pBytes pRep hF Ca hC r hr => ?_
  cbv
  refine callB hC (iValueRight_ok _ _ _) (fun h1 => ?_) (fun h1 => ?_) <;> cbv
  all_goals (cases hF; rw [hr, h1]; rfl)
def firstBad : List Val → Nat
  | [] => 0
  | v :: l => if v.right then firstBad l + 1 else 0
def badAt (l : List Val) : Int := if l.all Val.right then -1 else firstBad l
theorem firstBad_at : ∀ (l : List Val) (i : Nat) (hs : i < l.length), (l.take i).all Val.right = true → l[i].right = false → firstBad l = i
  | [], _, hs, _, _ => absurd hs (Nat.not_lt_zero _)
  | v :: l, 0, _, _, h => by rw [firstBad]; exact ite_f h
  | v :: l, i + 1, hs, hq, h => by
    rw [List.take_succ_cons, List.all_cons, Bool.and_eq_true] at hq
    rw [firstBad, ite_t hq.1, firstBad_at l i (Nat.lt_of_succ_lt_succ hs) hq.2 h]
theorem badAt_at (l : List Val) (i : Nat) (hs : i < l.length) (hq : (l.take i).all Val.right = true) (h : l[i].right = false) : badAt l = i := by
  have : l.all Val.right = false := List.all_eq_false.2 ⟨l[i], List.getElem_mem hs, by rw [h]; decide⟩
  rw [badAt, ite_f this, firstBad_at l i hs hq h]
theorem indexFunc_ok (l : List Val) (hl : l.length ≤ maxLen) : CallOK Try.prog 54 [aVs (l.map Val.row), .c (.y (.sc (.func (.func 52) ⟨[]⟩ ⟨[]⟩)))] (N (badAt l)) := by
  rw [maxLen_is] at hl
  obtain ⟨xs, hx⟩ : ∃ xs, xs = l.map Val.row := ⟨_, rfl⟩
  rw [← hx]
  refine go Try.func54 rfl rfl rfl rfl fun pAdd pSub pMul pQuo pRem pAnd pOr pXor pAndNot pShl pShr pNeg pCompl pConv pLt pLe pEq pSlt pSle pSeq pCat pCatOk pSlen pSsub pSat pIadd pIsub pBnot pBeq pImin pImax pLlen pLsub pLapp pLset pLcopy pLenOk pBytes pRep hF Ca hC r hr => ?_
  cbv
  refine loop_at (α := Nat) (fun a => ⟨[(0, .c (.y (.sl 3 xs))), (1, .c (.y (.sc (.func (.func 52) ⟨[]⟩ ⟨[]⟩)))), (7, .c (.y (.sc (.int .i64 (pLlen xs))))), (8, .c (.y (.sc (.int .i64 a))))], []⟩)
    (fun a => a ≤ l.length ∧ (l.take a).all Val.right = true) (fun a => l.length - a) 0 rfl ⟨by omega, rfl⟩ (fun I i hi ih => ?_)
  obtain ⟨hi, hq⟩ := hi
  cbv
  refine brkI (fun h => ?_) (fun h => ?_) <;> try cbv
  · have hs : i < l.length := by cases hF; subst hx; have := Int.ofNat_lt.1 (lt_t h); rwa [List.length_map] at this
    obtain ⟨⟨k, n, s⟩, hu⟩ : ∃ u, u = l[i] := ⟨_, rfl⟩
    refine lget (x := [yN k, yN n, yS s]) (by rw [hx, List.getElem?_map, List.getElem?_eq_getElem hs, ← hu]; rfl) ?_
    cbv
    refine callB hC (notRight_ok _ _ _) (fun h1 => ?_) (fun h1 => ?_) <;> cbv
    · have : l[i].right = false := by rw [← hu]; simpa [Val.right] using h1
      rw [hr, badAt_at l i hs hq this]; rfl
    · have e1 : pAdd .i64 (Int.ofNat i) 1 = Int.ofNat (i + 1) := by cases hF; exact add1 (by omega)
      conv => arg 1; cbv
      rw [e1]
      refine ih (i + 1) ⟨hs, ?_⟩ (by omega)
      rw [List.take_succ_eq_append_getElem hs, List.all_append, hq, ← hu]
      simpa [Val.right] using h1
  · have hs : i = l.length := by cases hF; subst hx; have := Int.ofNat_le.1 (lt_f h); rw [List.length_map] at this; exact Nat.le_antisymm hi this
    subst hs
    rw [List.take_length] at hq
    rw [hr, badAt, ite_t hq]
theorem containsFunc_ok (l : List Val) (hl : l.length ≤ maxLen) : CallOK Try.prog 51 [aVs (l.map Val.row), .c (.y (.sc (.func (.func 52) ⟨[]⟩ ⟨[]⟩)))] (B (!l.all Val.right)) := by
  have hc := indexFunc_ok l hl
  obtain ⟨xs, hx⟩ : ∃ xs, xs = l.map Val.row := ⟨_, rfl⟩
  rw [← hx] at hc ⊢
  refine go Try.func51 rfl rfl rfl rfl fun pAdd pSub pMul pQuo pRem pAnd pOr pXor pAndNot pShl pShr pNeg pCompl pConv pLt pLe pEq pSlt pSle pSeq pCat pCatOk pSlen pSsub pSat pIadd pIsub pBnot pBeq pImin pImax pLlen pLsub pLapp pLset pLcopy pLenOk pBytes pRep hF Ca hC r hr => ?_
  cbv
  refine callN hC hc (fun m hm => ?_)
  cbv
  repeat' (refine brkI (fun h => ?_) (fun h => ?_) <;> try cbv)
  all_goals
    cases hF; rw [hr]
    cases ha : l.all Val.right
    · rw [badAt, ite_f ha] at hm
      simp [prims, hm] at *
      try omega
    · rw [badAt, ite_t ha] at hm
      simp [prims, hm] at *
theorem iValuesRight_ok (l : List Val) (hl : l.length ≤ maxLen) : CallOK Try.prog 40 [aVs (l.map Val.row)] (B (decide (l.length ≤ 12) && l.all Val.right)) := by
  have hc := containsFunc_ok l hl
  obtain ⟨xs, hx⟩ : ∃ xs, xs = l.map Val.row := ⟨_, rfl⟩
  rw [← hx] at hc ⊢
  refine go Try.func40 rfl rfl rfl rfl fun pAdd pSub pMul pQuo pRem pAnd pOr pXor pAndNot pShl pShr pNeg pCompl pConv pLt pLe pEq pSlt pSle pSeq pCat pCatOk pSlen pSsub pSat pIadd pIsub pBnot pBeq pImin pImax pLlen pLsub pLapp pLset pLcopy pLenOk pBytes pRep hF Ca hC r hr => ?_
  cbv
  refine brkI (fun h => ?_) (fun h => ?_) <;> try cbv
  · have h' : l.length ≤ 12 := by cases hF; subst hx; have := Int.ofNat_le.1 (le_t h); rwa [List.length_map] at this
    refine callB hC hc (fun h1 => ?_) (fun h1 => ?_) <;> cbv
    all_goals
      cases hF; rw [hr, decide_eq_true h']
      cases ha : l.all Val.right <;> simp [ha, prims] at h1 ⊢
  · have h' : ¬ l.length ≤ 12 := by cases hF; subst hx; have h3 : (12 : Int) < ((l.map Val.row).length : Int) := le_f h; rw [List.length_map] at h3; omega
    rw [hr, decide_eq_false h']; rfl
def zeroV : List Y := [yN 0, yN 0, yS ⟨⟨[]⟩⟩]
theorem toValueS_ok (l : List Val) (hl : l.length ≤ 1048576) : CallOK Try.prog 39 [aVs (l.map Val.row)] ⟨.c (.own 3 (l.map Val.row)), []⟩ := by
  obtain ⟨xs, hx⟩ : ∃ xs, xs = l.map Val.row := ⟨_, rfl⟩
  rw [← hx]
  refine go Try.func39 rfl rfl rfl rfl fun pAdd pSub pMul pQuo pRem pAnd pOr pXor pAndNot pShl pShr pNeg pCompl pConv pLt pLe pEq pSlt pSle pSeq pCat pCatOk pSlen pSsub pSat pIadd pIsub pBnot pBeq pImin pImax pLlen pLsub pLapp pLset pLcopy pLenOk pBytes pRep hF Ca hC r hr => ?_
  cbv
  have g1 : pLe 0 (pLlen xs) = true := by cases hF; exact mk_le (b := (xs.length : Int)) (Int.natCast_nonneg _)
  have g2 : pLe (pLlen xs) (pLlen xs) = true := by cases hF; exact mk_le (Int.le_refl _)
  have g3 : pLenOk (pLlen xs) = true := by cases hF; exact decide_eq_true (by show (xs.length : Int) ≤ 4294967296; rw [hx, List.length_map]; omega)
  refine brT g1 (brT g2 (brT g3 ?_))
  refine loop_at (α := Nat × List (List Y)) (fun a => ⟨[(0, .c (.y (.sl 3 xs))), (3, .c (.aw 3001)), (4, .c (.y (.sc (.int .i64 a.1))))], [(3001, .ar 3 a.2)]⟩)
    (fun a => a.1 ≤ l.length ∧ a.2 = fill Val.row zeroV l a.1) (fun a => l.length - a.1) (0, _) rfl ⟨by omega, by cases hF; show List.replicate (Int.toNat (xs.length : Int)) _ = _; rw [hx, List.length_map]; exact fill_zero ..⟩ (fun I a hi ih => ?_)
  obtain ⟨i, zs⟩ := a
  obtain ⟨hi, hz⟩ := hi
  dsimp only at hi hz
  cbv
  refine brkI (fun h => ?_) (fun h => ?_) <;> try cbv
  · have hs : i < l.length := by cases hF; subst hx; have := Int.ofNat_lt.1 (lt_t h); rwa [List.length_map] at this
    obtain ⟨⟨k, n, s⟩, hu⟩ : ∃ u, u = l[i] := ⟨_, rfl⟩
    refine lget (x := [yN k, yN n, yS s]) (by rw [hx, List.getElem?_map, List.getElem?_eq_getElem hs, ← hu]; rfl) ?_
    cbv
    refine callI hC (toValue_ok _ _ _) ?_
    cbv
    have hzl : zs.length = l.length := by rw [hz]; exact fill_len _ _ _ hi
    refine brT (by cases hF; rfl) (brT (by cases hF; exact decide_eq_true (by show (i : Int) < (zs.length : Int); omega)) ?_)
    refine lget (x := zeroV) (by rw [hz]; exact fill_get _ _ _ hs) ?_
    cbv
    have e1 : pAdd .i64 (Int.ofNat i) 1 = Int.ofNat (i + 1) := by cases hF; exact add1 (by omega)
    have e2 : pLset zs (Int.ofNat i) [yN k, yN n, yS s] = fill Val.row zeroV l (i + 1) := by
      have := fill_set Val.row zeroV l hs
      rw [← hu] at this
      rw [hz, ← this]; cases hF; rfl
    conv => arg 1; cbv
    rw [e1, e2]
    exact ih (i + 1, _) ⟨hs, rfl⟩ (by dsimp only; omega)
  · have hs : i = l.length := by cases hF; subst hx; have := Int.ofNat_le.1 (lt_f h); rw [List.length_map] at this; exact Nat.le_antisymm hi this
    subst hs
    rw [hr, hz, hx, fill_end]
def szRun : Int → List Val → Int
  | left, [] => left
  | left, v :: l => if less left v.s < 0 then -1 else szRun (less left v.s) l
def szVs (l : List Val) (left : Int) : Int := if left < l.length then -1 else szRun (left - l.length) l
theorem less_le {left : Int} (s : ByteArray) (h : ¬ less left s < 0) : 0 ≤ less left s ∧ less left s ≤ left := by
  unfold less at *
  split at h <;> rename_i h1
  · exact absurd h (by decide)
  · rw [if_neg h1]; omega
theorem szValueS_ok (l : List Val) (left : Int) (h1 : 0 ≤ left) (h2 : left ≤ 1048576) (hl : l.length ≤ maxLen) (hs : ∀ v ∈ l, v.s.size ≤ maxLen) : CallOK Try.prog 37 [aVs (l.map Val.row), aN left] (N (szVs l left)) := by
  rw [maxLen_is] at hl
  obtain ⟨xs, hx⟩ : ∃ xs, xs = l.map Val.row := ⟨_, rfl⟩
  have hxl : xs.length = l.length := by rw [hx, List.length_map]
  rw [← hx]
  refine go Try.func37 rfl rfl rfl rfl fun pAdd pSub pMul pQuo pRem pAnd pOr pXor pAndNot pShl pShr pNeg pCompl pConv pLt pLe pEq pSlt pSle pSeq pCat pCatOk pSlen pSsub pSat pIadd pIsub pBnot pBeq pImin pImax pLlen pLsub pLapp pLset pLcopy pLenOk pBytes pRep hF Ca hC r hr => ?_
  cbv
  have e : pSub .i64 left (pLlen xs) = left - pLlen xs := by cases hF; exact wrap_i64 (n := left - (xs.length : Int)) (by omega) (by omega)
  refine brkI (fun h => ?_) (fun h => ?_) <;> try cbv
  · have h' : left < l.length := by cases hF; rw [e] at h; have h3 : left - (xs.length : Int) < 0 := lt_t h; omega
    rw [hr, szVs, if_pos h']
  · have h' : ¬ left < l.length := by cases hF; rw [e] at h; have h3 : 0 ≤ left - (xs.length : Int) := lt_f h; omega
    obtain ⟨q0, hq0⟩ : ∃ q0, q0 = pSub .i64 left (pLlen xs) := ⟨_, rfl⟩
    have hq1 : 0 ≤ q0 ∧ q0 ≤ 1048576 ∧ szVs l left = szRun q0 l := by
      have : q0 = left - (l.length : Int) := by rw [hq0, e]; cases hF; show left - (xs.length : Int) = _; omega
      refine ⟨by omega, by omega, ?_⟩
      rw [szVs, if_neg h', this]
    rw [← hq0]
    refine loop_at (α := Nat × Int) (fun a => ⟨[(0, .c (.y (.sl 3 xs))), (1, .c (.y (.sc (.int .i64 a.2)))), (5, .c (.y (.sc (.int .i64 a.1))))], []⟩)
      (fun a => a.1 ≤ l.length ∧ 0 ≤ a.2 ∧ a.2 ≤ 1048576 ∧ szVs l left = szRun a.2 (l.drop a.1)) (fun a => l.length - a.1) (0, q0) rfl ⟨by omega, hq1.1, hq1.2.1, hq1.2.2⟩ (fun I a hi ih => ?_)
    obtain ⟨i, q⟩ := a
    obtain ⟨hi, hqa, hqb, hq⟩ := hi
    dsimp only at hi hqa hqb hq
    cbv
    refine brkI (fun h0 => ?_) (fun h0 => ?_) <;> try cbv
    · have hs' : i < l.length := by cases hF; subst hx; have := Int.ofNat_lt.1 (lt_t h0); rwa [List.length_map] at this
      obtain ⟨⟨k, n, s⟩, hu⟩ : ∃ u, u = l[i] := ⟨_, rfl⟩
      have hsz : s.size ≤ maxLen := hs ⟨k, n, s⟩ (hu ▸ List.getElem_mem hs')
      refine lget (row_get hx hs' hu) ?_
      cbv
      refine callN hC (szValue_ok _ _ _ _ hqa hqb hsz) (fun m hm => ?_)
      cbv
      rw [List.drop_eq_getElem_cons hs', szRun, ← hu] at hq
      change szVs l left = if less q s < 0 then -1 else szRun (less q s) (l.drop (i + 1)) at hq
      refine brkI (fun h3 => ?_) (fun h3 => ?_) <;> try cbv
      · have h4 : less q s < 0 := by cases hF; rw [hm] at h3; exact lt_t h3
        rw [hr, hq, if_pos h4]
      · have h4 : ¬ less q s < 0 := by cases hF; rw [hm] at h3; exact Int.not_lt.2 (lt_f h3)
        have h5 := less_le s h4
        have e1 : pAdd .i64 (Int.ofNat i) 1 = Int.ofNat (i + 1) := by cases hF; exact add1 (by omega)
        conv => arg 1; cbv
        rw [e1, hm]
        exact ih (i + 1, less q s) ⟨hs', h5.1, by dsimp only; omega, by rw [hq, if_neg h4]⟩ (by dsimp only; omega)
    · have hs' : i = l.length := by cases hF; subst hx; have := Int.ofNat_le.1 (lt_f h0); rw [List.length_map] at this; exact Nat.le_antisymm hi this
      rw [hs', List.drop_length, szRun] at hq
      rw [hr, hq]
theorem eqValue_ok (k n : Int) (s : ByteArray) : CallOK Try.prog 53 [.agg [.y (yN k), .y (yN n), .y (yS s)], .agg [.y (yN k), .y (yN n), .y (yS s)]] (B true) := by
  refine go Try.func53 rfl rfl rfl rfl fun pAdd pSub pMul pQuo pRem pAnd pOr pXor pAndNot pShl pShr pNeg pCompl pConv pLt pLe pEq pSlt pSle pSeq pCat pCatOk pSlen pSsub pSat pIadd pIsub pBnot pBeq pImin pImax pLlen pLsub pLapp pLset pLcopy pLenOk pBytes pRep hF Ca hC r hr => ?_
  cbv
  repeat' (refine brkI (fun _ => ?_) (fun _ => ?_) <;> try cbv)
  all_goals (cases hF; subst hr; simp_all)
theorem eqValueS_ok (l : List Val) (hl : l.length ≤ maxLen) : CallOK Try.prog 41 [aVs (l.map Val.row), aVs (l.map Val.row)] (B true) := by
  rw [maxLen_is] at hl
  obtain ⟨xs, hx⟩ : ∃ xs, xs = l.map Val.row := ⟨_, rfl⟩
  have hxl : xs.length = l.length := by rw [hx, List.length_map]
  rw [← hx]
  refine go Try.func41 rfl rfl rfl rfl fun pAdd pSub pMul pQuo pRem pAnd pOr pXor pAndNot pShl pShr pNeg pCompl pConv pLt pLe pEq pSlt pSle pSeq pCat pCatOk pSlen pSsub pSat pIadd pIsub pBnot pBeq pImin pImax pLlen pLsub pLapp pLset pLcopy pLenOk pBytes pRep hF Ca hC r hr => ?_
  cbv
  refine brkI (fun h => ?_) (fun h => ?_) <;> try cbv
  · refine loop_at (α := Nat) (fun a => ⟨[(0, .c (.y (.sl 3 xs))), (1, .c (.y (.sl 3 xs))), (5, .c (.y (.sc (.int .i64 a))))], []⟩)
      (fun a => a ≤ l.length) (fun a => l.length - a) 0 rfl (by omega) (fun I i hi ih => ?_)
    cbv
    refine brkI (fun h0 => ?_) (fun h0 => ?_) <;> try cbv
    · have hs : i < l.length := by cases hF; subst hx; have := Int.ofNat_lt.1 (lt_t h0); rwa [List.length_map] at this
      obtain ⟨⟨k, n, s⟩, hu⟩ : ∃ u, u = l[i] := ⟨_, rfl⟩
      refine lget (row_get hx hs hu) ?_
      cbv
      refine lget (row_get hx hs hu) ?_
      cbv
      refine callB hC (eqValue_ok _ _ _) (fun h1 => ?_) (fun h1 => ?_) <;> cbv
      · have e1 : pAdd .i64 (Int.ofNat i) 1 = Int.ofNat (i + 1) := by cases hF; exact add1 (by omega)
        conv => arg 1; cbv
        rw [e1]
        exact ih (i + 1) hs (by omega)
      · cases h1
    · exact hr.symm
  · cases hF; exact absurd rfl (eq_f h)
theorem lawValuesRight_ok (l : List Val) (hl : l.length ≤ maxLen) (hs : ∀ v ∈ l, v.s.size ≤ maxLen) : CallOK Try.prog 13 [aVs (l.map Val.row)] (B true) := by
  have c1 := szValueS_ok l 1048576 (by decide) (by decide) hl hs
  have c2 := fun h => toValueS_ok l h
  have c3 := sValuesRight_ok l
  have c4 := iValuesRight_ok l hl
  have c5 := eqValueS_ok l hl
  obtain ⟨xs, hx⟩ : ∃ xs, xs = l.map Val.row := ⟨_, rfl⟩
  rw [← hx] at c1 c2 c3 c4 c5 ⊢
  refine go Try.func13 rfl rfl rfl rfl fun pAdd pSub pMul pQuo pRem pAnd pOr pXor pAndNot pShl pShr pNeg pCompl pConv pLt pLe pEq pSlt pSle pSeq pCat pCatOk pSlen pSsub pSat pIadd pIsub pBnot pBeq pImin pImax pLlen pLsub pLapp pLset pLcopy pLenOk pBytes pRep hF Ca hC r hr => ?_
  cbv
  refine callN hC c1 (fun m hm => ?_)
  cbv
  refine brkI (fun h => ?_) (fun h => ?_) <;> try cbv
  · exact hr.symm
  · have h' : l.length ≤ 1048576 := by
      cases hF
      have := lt_f h
      rw [hm, szVs] at this
      split at this
      · exact absurd this (by decide)
      · omega
    replace c2 := c2 h'
    refine callI hC c2 ?_
    cbv
    refine callB hC c3 (fun h1 => ?_) (fun h1 => ?_) <;> cbv
    all_goals refine callI hC c2 ?_
    all_goals cbv
    all_goals refine callB hC c4 (fun h2 => ?_) (fun h2 => ?_) <;> cbv
    all_goals first | (rw [h1] at h2; cases h2; done) | skip
    all_goals refine callI hC c2 ?_
    all_goals cbv
    all_goals refine callB hC c5 (fun h3 => ?_) (fun h3 => ?_) <;> cbv
    all_goals first | exact hr.symm | cases h3
end Go.Proofs.Yteennikekhiedaa
