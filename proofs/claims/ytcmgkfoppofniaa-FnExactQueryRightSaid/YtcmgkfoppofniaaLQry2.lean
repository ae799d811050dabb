/- Functions of the program, each with what it returns, run by the evaluator; the conditions stand in the theorems. -/
import Derived.Test.YtcmgkfoppofniaaLQuery
namespace Go.Proofs.Ytcmgkfoppofniaa
open Go Go.Proofs.YtcmgkfoppofniaaW Go.Proofs
set_option linter.unusedVariables false
set_option linter.unusedSimpArgs false
set_option maxRecDepth 100000
set_option maxHeartbeats 8000000
def plainAt (s : ByteArray) (i : Nat) : Bool := (decide (97 ≤ prims.sat s i) && decide (prims.sat s i ≤ 122)) || (decide (48 ≤ prims.sat s i) && decide (prims.sat s i ≤ 57)) || decide (prims.sat s i = 95) || decide (prims.sat s i = 45)
def plain (s : ByteArray) : Bool := decide (s.size ≤ 40) && allTo (plainAt s) s.size
theorem plain_ends {s : ByteArray} (h : allTo (plainAt s) s.size = true) : plain s = decide (s.size ≤ 40) := by rw [plain, h, Bool.and_true]
theorem plain_bad {s : ByteArray} {i : Nat} (h : i < s.size) (hp : plainAt s i = false) : plain s = false := by rw [plain, allTo_false h hp, Bool.and_false]
theorem plain_empty : plain .empty = true := rfl
theorem sPlain_ok (s : ByteArray) (hl : s.size ≤ maxLen) : CallOK Try.prog 189 [aS s] (B (plain s)) := by
  rw [maxLen_is] at hl
  obtain ⟨q, hq⟩ : ∃ q, q = plain s := ⟨_, rfl⟩
  rw [← hq]
  obtain ⟨M, hM⟩ := mapEx
  try simp only [hM]
  refine go Try.func189 rfl rfl rfl rfl fun pAdd pSub pMul pQuo pRem pAnd pOr pXor pAndNot pShl pShr pNeg pCompl pConv pLt pLe pEq pSlt pSle pSeq pCat pCatOk pSlen pSsub pSat pIadd pIsub pBnot pBeq pImin pImax pLlen pLsub pLapp pLset pLcopy pLenOk pBytes pRep hF Ca hC r hr => ?_
  cbv
  refine loop_all (fun a st => st.n 3 (Int.ofNat a)) (plainAt s) s.size rfl (fun K' hK I i hi hp ih => ?_)
  cbv
  refine brkI (fun h => ?_) (fun h => ?_) <;> try cbv
  · have hs : i < s.size := siltT hF h
    refine brT (zeroLe hF i) (brT (mkSilt hF hs) ?_)
    obtain ⟨c, hc⟩ : ∃ c, c = pSat s (Int.ofNat i) := ⟨_, rfl⟩
    have hc' : c = prims.sat s i := hc.trans (by rw [hF]; rfl)
    rw [← hc]
    have e1 : pAdd .i64 (Int.ofNat i) 1 = Int.ofNat (i + 1) := add1Is hF (by omega)
    repeat' (first
      | (refine brkI (fun h => ?_) (fun h => ?_) <;> try cbv))
    all_goals first
      | (conv => arg 1; cbv
         rw [e1]
         refine ih _ hs ?_ rfl)
      | (refine hK _ _ ?_
         cbv
         refine retB hr (hq.trans (plain_bad hs ?_)))
    all_goals
      clear hK ih hC hr hp
      have lD : ∀ a b, pLt a b = decide (a < b) := ltD hF
      have eD : ∀ a b, pLe a b = decide (a ≤ b) := leD hF
      have qD : ∀ a b, pEq a b = decide (a = b) := eqD hF
      have sD : ∀ a b, pSeq a b = decide (a = b) := seqD hF
      rw [plainAt, ← hc']
      simp only [lD, eD, qD] at *
      clear lD eD qD sD hF
      (first | (simp only [Bool.or_eq_true, Bool.and_eq_true, Bool.not_eq_true', Bool.or_eq_false_iff, Bool.and_eq_false_iff, Bool.not_eq_false', decide_eq_true_eq, decide_eq_false_iff_not, Bool.not_false, Bool.not_true, Bool.and_true, Bool.true_and, Bool.or_false, Bool.false_or, and_true, true_and, Int.ofNat_eq_natCast] at *; omega) | (simp only [Bool.eq_false_iff, ne_eq, Bool.or_eq_true, Bool.and_eq_true, Bool.not_eq_true', decide_eq_true_eq, decide_eq_false_iff_not, Bool.not_false, Bool.not_true, Bool.and_true, Bool.true_and, Bool.or_false, Bool.false_or, and_true, true_and, Int.ofNat_eq_natCast] at *; omega) | (simp only [Bool.or_eq_true, Bool.and_eq_true, Bool.not_eq_true', Bool.or_eq_false_iff, Bool.and_eq_false_iff, Bool.not_eq_false', decide_eq_true_eq, decide_eq_false_iff_not, Bool.not_false, Bool.not_true, Bool.and_true, Bool.true_and, Bool.or_false, Bool.false_or, and_true, true_and, Int.ofNat_eq_natCast] at *; grind) | grind)
  · have hs : i = s.size := Nat.le_antisymm hi (siltF hF h)
    subst hs
    have e0 : pSlen s = Int.ofNat s.size := slenIs hF s
    refine hK _ _ ?_
    cbv
    refine brkI (fun h => ?_) (fun h => ?_) <;> try cbv
    · have h2 := leT hF h
      rw [e0] at h2
      refine retB hr (hq.trans ((plain_ends (allTo_iff.2 hp)).trans (decide_eq_true (by ((try simp only [Int.ofNat_eq_natCast] at *); omega)))))
    · have h2 := leF hF h
      rw [e0] at h2
      refine retB hr (hq.trans ((plain_ends (allTo_iff.2 hp)).trans (decide_eq_false (by ((try simp only [Int.ofNat_eq_natCast] at *); omega)))))
theorem iPlain_ok (s : ByteArray) (hl : s.size ≤ maxLen) : CallOK Try.prog 179 [aS s] (B (plain s)) := by
  rw [maxLen_is] at hl
  obtain ⟨q, hq⟩ : ∃ q, q = plain s := ⟨_, rfl⟩
  rw [← hq]
  obtain ⟨M, hM⟩ := mapEx
  try simp only [hM]
  refine go Try.func179 rfl rfl rfl rfl fun pAdd pSub pMul pQuo pRem pAnd pOr pXor pAndNot pShl pShr pNeg pCompl pConv pLt pLe pEq pSlt pSle pSeq pCat pCatOk pSlen pSsub pSat pIadd pIsub pBnot pBeq pImin pImax pLlen pLsub pLapp pLset pLcopy pLenOk pBytes pRep hF Ca hC r hr => ?_
  cbv
  refine loop_all (fun a st => st.n 7 (Int.ofNat a)) (plainAt s) s.size rfl (fun K' hK I i hi hp ih => ?_)
  cbv
  refine brkI (fun h => ?_) (fun h => ?_) <;> try cbv
  · have hs : i < s.size := siltT hF h
    refine brT (zeroLe hF i) (brT (mkSilt hF hs) ?_)
    obtain ⟨c, hc⟩ : ∃ c, c = pSat s (Int.ofNat i) := ⟨_, rfl⟩
    have hc' : c = prims.sat s i := hc.trans (by rw [hF]; rfl)
    rw [← hc]
    have e1 : pAdd .i64 (Int.ofNat i) 1 = Int.ofNat (i + 1) := add1Is hF (by omega)
    repeat' (first
      | (refine brkI (fun h => ?_) (fun h => ?_) <;> try cbv))
    all_goals first
      | (conv => arg 1; cbv
         rw [e1]
         refine ih _ hs ?_ rfl)
      | (refine hK _ _ ?_
         cbv
         refine retB hr (hq.trans (plain_bad hs ?_)))
    all_goals
      clear hK ih hC hr hp
      have lD : ∀ a b, pLt a b = decide (a < b) := ltD hF
      have eD : ∀ a b, pLe a b = decide (a ≤ b) := leD hF
      have qD : ∀ a b, pEq a b = decide (a = b) := eqD hF
      have sD : ∀ a b, pSeq a b = decide (a = b) := seqD hF
      rw [plainAt, ← hc']
      simp only [lD, eD, qD] at *
      clear lD eD qD sD hF
      (first | (simp only [Bool.or_eq_true, Bool.and_eq_true, Bool.not_eq_true', Bool.or_eq_false_iff, Bool.and_eq_false_iff, Bool.not_eq_false', decide_eq_true_eq, decide_eq_false_iff_not, Bool.not_false, Bool.not_true, Bool.and_true, Bool.true_and, Bool.or_false, Bool.false_or, and_true, true_and, Int.ofNat_eq_natCast] at *; omega) | (simp only [Bool.eq_false_iff, ne_eq, Bool.or_eq_true, Bool.and_eq_true, Bool.not_eq_true', decide_eq_true_eq, decide_eq_false_iff_not, Bool.not_false, Bool.not_true, Bool.and_true, Bool.true_and, Bool.or_false, Bool.false_or, and_true, true_and, Int.ofNat_eq_natCast] at *; omega) | (simp only [Bool.or_eq_true, Bool.and_eq_true, Bool.not_eq_true', Bool.or_eq_false_iff, Bool.and_eq_false_iff, Bool.not_eq_false', decide_eq_true_eq, decide_eq_false_iff_not, Bool.not_false, Bool.not_true, Bool.and_true, Bool.true_and, Bool.or_false, Bool.false_or, and_true, true_and, Int.ofNat_eq_natCast] at *; grind) | grind)
  · have hs : i = s.size := Nat.le_antisymm hi (siltF hF h)
    subst hs
    have e0 : pSlen s = Int.ofNat s.size := slenIs hF s
    refine hK _ _ ?_
    cbv
    refine brkI (fun h => ?_) (fun h => ?_) <;> try cbv
    · have h2 := leT hF h
      rw [e0] at h2
      refine retB hr (hq.trans ((plain_ends (allTo_iff.2 hp)).trans (decide_eq_true (by ((try simp only [Int.ofNat_eq_natCast] at *); omega)))))
    · have h2 := leF hF h
      rw [e0] at h2
      refine retB hr (hq.trans ((plain_ends (allTo_iff.2 hp)).trans (decide_eq_false (by ((try simp only [Int.ofNat_eq_natCast] at *); omega)))))
/-! operators -/
def ops : List ByteArray := [⟨⟨[61]⟩⟩, ⟨⟨[33, 61]⟩⟩, ⟨⟨[60]⟩⟩, ⟨⟨[60, 61]⟩⟩, ⟨⟨[62]⟩⟩, ⟨⟨[62, 61]⟩⟩]
def isOp (s : ByteArray) : Bool := decide (s = ⟨⟨[61]⟩⟩) || decide (s = ⟨⟨[33, 61]⟩⟩) || decide (s = ⟨⟨[60]⟩⟩) || decide (s = ⟨⟨[60, 61]⟩⟩) || decide (s = ⟨⟨[62]⟩⟩) || decide (s = ⟨⟨[62, 61]⟩⟩)
theorem sOp_ok (s : ByteArray) : CallOK Try.prog 171 [aS s] (B (isOp s)) := by
  obtain ⟨q, hq⟩ : ∃ q, q = isOp s := ⟨_, rfl⟩
  rw [← hq]
  obtain ⟨M, hM⟩ := mapEx
  try simp only [hM]
  refine go Try.func171 rfl rfl rfl rfl fun pAdd pSub pMul pQuo pRem pAnd pOr pXor pAndNot pShl pShr pNeg pCompl pConv pLt pLe pEq pSlt pSle pSeq pCat pCatOk pSlen pSsub pSat pIadd pIsub pBnot pBeq pImin pImax pLlen pLsub pLapp pLset pLcopy pLenOk pBytes pRep hF Ca hC r hr => ?_
  cbv
  repeat' (refine brkI (fun _ => ?_) (fun _ => ?_) <;> try cbv)
  all_goals
    refine retB hr (hq.trans ?_)
    clear hC hr hq
    have lD : ∀ a b, pLt a b = decide (a < b) := ltD hF
    have eD : ∀ a b, pLe a b = decide (a ≤ b) := leD hF
    have qD : ∀ a b, pEq a b = decide (a = b) := eqD hF
    have sD : ∀ a b, pSeq a b = decide (a = b) := seqD hF
    rw [isOp]
    simp only [sD] at *
    clear lD eD qD sD hF
    simp_all
theorem ixS_ok (l : List ByteArray) (x : ByteArray) (hl : l.length ≤ maxLen) : CallOK Try.prog 195 [.c (.y (.sl 1 (l.map rowS))), aS x] (N (firstTo (fun i => decide (x = l.getD i .empty)) l.length)) := by
  rw [maxLen_is] at hl
  obtain ⟨q, hq⟩ : ∃ q, q = firstTo (fun i => decide (x = l.getD i .empty)) l.length := ⟨_, rfl⟩
  obtain ⟨xs, hx⟩ : ∃ xs, xs = l.map rowS := ⟨_, rfl⟩
  have hxl : xs.length = l.length := by rw [hx, List.length_map]
  rw [← hq, ← hx]
  obtain ⟨M, hM⟩ := mapEx
  try simp only [hM]
  refine go Try.func195 rfl rfl rfl rfl fun pAdd pSub pMul pQuo pRem pAnd pOr pXor pAndNot pShl pShr pNeg pCompl pConv pLt pLe pEq pSlt pSle pSeq pCat pCatOk pSlen pSsub pSat pIadd pIsub pBnot pBeq pImin pImax pLlen pLsub pLapp pLset pLcopy pLenOk pBytes pRep hF Ca hC r hr => ?_
  cbv
  refine loop_all (fun a st => st.n 8 (Int.ofNat a)) (fun i => !decide (x = l.getD i .empty)) l.length rfl (fun K' hK I i hi hp ih => ?_)
  cbv
  refine brkI (fun h => ?_) (fun h => ?_) <;> try cbv
  · have hs : i < l.length := hxl ▸ iltT hF h
    have e1 : pAdd .i64 (Int.ofNat i) 1 = Int.ofNat (i + 1) := add1Is hF (by omega)
    refine lgetM (fun u => [yS u]) (fun u => by simp only [rowS]) hx hs fun u hu => ?_
    cbv
    have hu' : l.getD i .empty = u := getD_of hs hu
    refine brkI (fun h => ?_) (fun h => ?_) <;> try cbv
    · refine hK _ _ ?_
      cbv
      refine retN hr (hq.trans (firstTo_at hs (by rw [hu']; exact decide_eq_true (seqT hF h)) fun j hj => ?_))
      have := hp j hj
      simpa using this
    · conv => arg 1; cbv
      rw [e1]
      exact ih _ hs (by rw [hu', decide_eq_false (seqF hF h)]; rfl) rfl
  · have hs : i = l.length := Nat.le_antisymm hi (hxl ▸ iltF hF h)
    subst hs
    refine hK _ _ ?_
    cbv
    refine retN hr (hq.trans (firstTo_none fun j hj => ?_))
    have := hp j hj
    simpa using this
theorem hasS_ok (l : List ByteArray) (x : ByteArray) (hl : l.length ≤ maxLen) : CallOK Try.prog 191 [.c (.y (.sl 1 (l.map rowS))), aS x] (B (!allTo (fun i => !decide (x = l.getD i .empty)) l.length)) := by
  have hc := ixS_ok l x hl
  have hh := hasTo_is (fun i => decide (x = l.getD i .empty)) l.length
  rw [← hh]
  obtain ⟨q, hq⟩ : ∃ q, q = firstTo (fun i => decide (x = l.getD i .empty)) l.length := ⟨_, rfl⟩
  rw [← hq] at hc ⊢
  clear hq hh
  obtain ⟨M, hM⟩ := mapEx
  try simp only [hM]
  refine go Try.func191 rfl rfl rfl rfl fun pAdd pSub pMul pQuo pRem pAnd pOr pXor pAndNot pShl pShr pNeg pCompl pConv pLt pLe pEq pSlt pSle pSeq pCat pCatOk pSlen pSsub pSat pIadd pIsub pBnot pBeq pImin pImax pLlen pLsub pLapp pLset pLcopy pLenOk pBytes pRep hF Ca hC r hr => ?_
  cbv
  refine callN hC (by have hh := hc; (try simp only [hM] at hh); exact hh) (fun m hm => ?_)
  cbv
  refine brkI (fun h1 => ?_) (fun h1 => ?_) <;> try cbv
  all_goals exact retR hr (by rw [← hm, ← leD hF 0 m]; exact h1.symm)
theorem ops_is (x : ByteArray) : (!allTo (fun i => !decide (x = ops.getD i .empty)) ops.length) = isOp x := by
  simp [ops, allTo, isOp]
theorem iOp_ok (s : ByteArray) : CallOK Try.prog 178 [aS s] (B (isOp s)) := by
  have h := hasS_ok ops s (by decide)
  rw [ops_is] at h
  obtain ⟨q, hq⟩ : ∃ q, q = isOp s := ⟨_, rfl⟩
  rw [← hq] at h ⊢
  clear hq
  obtain ⟨M, hM⟩ := mapEx
  try simp only [hM]
  refine go Try.func178 rfl rfl rfl rfl fun pAdd pSub pMul pQuo pRem pAnd pOr pXor pAndNot pShl pShr pNeg pCompl pConv pLt pLe pEq pSlt pSle pSeq pCat pCatOk pSlen pSsub pSat pIadd pIsub pBnot pBeq pImin pImax pLlen pLsub pLapp pLset pLcopy pLenOk pBytes pRep hF Ca hC r hr => ?_
  cbv
  refine callI hC h ?_
  cbv
  exact hr.symm
end Go.Proofs.Ytcmgkfoppofniaa
