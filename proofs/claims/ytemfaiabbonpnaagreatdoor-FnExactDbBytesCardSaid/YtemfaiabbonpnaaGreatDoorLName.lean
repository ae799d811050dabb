/- Functions of the program, each with what it returns, run by the evaluator; the conditions stand in the theorems. -/
import Derived.Test.YtemfaiabbonpnaaGreatDoorLTy
namespace Go.Proofs.YtemfaiabbonpnaaGreatDoor
open Go Go.Proofs.YtemfaiabbonpnaaGreatDoorW Go.Proofs
set_option linter.unusedVariables false
set_option linter.unusedSimpArgs false
set_option maxRecDepth 100000
set_option maxHeartbeats 8000000
def nameAt (s : ByteArray) (i : Nat) : Bool := (decide (97 ≤ prims.sat s i) && decide (prims.sat s i ≤ 122)) || (decide (0 < i) && ((decide (48 ≤ prims.sat s i) && decide (prims.sat s i ≤ 57)) || decide (prims.sat s i = 95)))
def nameRight (s : ByteArray) : Bool := decide (1 ≤ s.size) && decide (s.size ≤ 20) && allTo (nameAt s) s.size
theorem nameRight_ends {s : ByteArray} (h : allTo (nameAt s) s.size = true) : nameRight s = (decide (1 ≤ s.size) && decide (s.size ≤ 20)) := by rw [nameRight, h, Bool.and_true]
theorem nameRight_bad {s : ByteArray} {i : Nat} (h : i < s.size) (hp : nameAt s i = false) : nameRight s = false := by rw [nameRight, allTo_false h hp, Bool.and_false]
theorem nameRight_long {s : ByteArray} (h : s.size < 1 ∨ 20 < s.size) : nameRight s = false := by
  rw [nameRight]
  have : (decide (1 ≤ s.size) && decide (s.size ≤ 20)) = false := by rw [Bool.and_eq_false_iff, decide_eq_false_iff_not, decide_eq_false_iff_not]; omega
  rw [this, Bool.false_and]
theorem sNameRight_ok (s : ByteArray) (hl : s.size ≤ maxLen) : CallOK Tryz.prog 69 [aS s] (B (nameRight s)) := by
  rw [maxLen_is] at hl
  obtain ⟨q, hq⟩ : ∃ q, q = nameRight s := ⟨_, rfl⟩
  rw [← hq]
  obtain ⟨M, hM⟩ := mapEx
  try simp only [hM]
  refine go Tryz.func69 rfl rfl rfl rfl fun pAdd pSub pMul pQuo pRem pAnd pOr pXor pAndNot pShl pShr pNeg pCompl pConv pLt pLe pEq pSlt pSle pSeq pCat pCatOk pSlen pSsub pSat pIadd pIsub pBnot pBeq pImin pImax pLlen pLsub pLapp pLset pLcopy pLenOk pBytes pRep hF Ca hC r hr => ?_
  cbv
  have e0 : pSlen s = Int.ofNat s.size := slenIs hF s
  refine brkI (fun h1 => ?_) (fun h1 => ?_) <;> try cbv
  · have := ltT hF h1
    rw [e0] at this
    exact retB hr (hq.trans (nameRight_long (.inl (Int.ofNat_lt.1 this))))
  · have h1 := ltF hF h1
    rw [e0] at h1
    have h1 : 1 ≤ s.size := Int.ofNat_le.1 h1
    refine brkI (fun h2 => ?_) (fun h2 => ?_) <;> try cbv
    · have := ltT hF h2
      rw [e0] at this
      exact retB hr (hq.trans (nameRight_long (.inr (Int.ofNat_lt.1 this))))
    · have h2 := ltF hF h2
      rw [e0] at h2
      have h2 : s.size ≤ 20 := Int.ofNat_le.1 h2
      refine loop_all (fun a st => st.n 3 (Int.ofNat a)) (nameAt s) s.size rfl (fun K' hK I i hi hp ih => ?_)
      cbv
      refine brkI (fun h => ?_) (fun h => ?_) <;> try cbv
      · have hs : i < s.size := siltT hF h
        refine brT (zeroLe hF i) (brT (mkSilt hF hs) ?_)
        obtain ⟨c, hc⟩ : ∃ c, c = pSat s (Int.ofNat i) := ⟨_, rfl⟩
        have hc' : c = prims.sat s i := hc.trans (by rw [hF]; rfl)
        rw [← hc]
        have e1 : pAdd .i64 (Int.ofNat i) 1 = Int.ofNat (i + 1) := add1Is hF (by omega)
        repeat' (first
          | (refine brkI (fun h => ?_) (fun h => ?_) <;> try cbv))
        all_goals first
          | (conv => arg 1; cbv
             rw [e1]
             refine ih _ hs ?_ rfl)
          | (refine hK _ _ ?_
             cbv
             refine retB hr (hq.trans (nameRight_bad hs ?_)))
        all_goals
          clear hK ih hC hr hp
          have lD : ∀ a b, pLt a b = decide (a < b) := ltD hF
          have eD : ∀ a b, pLe a b = decide (a ≤ b) := leD hF
          have qD : ∀ a b, pEq a b = decide (a = b) := eqD hF
          have sD : ∀ a b, pSeq a b = decide (a = b) := seqD hF
          rw [nameAt, ← hc']
          simp only [lD, eD, qD] at *
          clear lD eD qD sD hF
          (first | (simp only [Bool.or_eq_true, Bool.and_eq_true, Bool.not_eq_true', Bool.or_eq_false_iff, Bool.and_eq_false_iff, Bool.not_eq_false', decide_eq_true_eq, decide_eq_false_iff_not, Bool.not_false, Bool.not_true, Bool.and_true, Bool.true_and, Bool.or_false, Bool.false_or, and_true, true_and, Int.ofNat_eq_natCast] at *; omega) | (simp only [Bool.eq_false_iff, ne_eq, Bool.or_eq_true, Bool.and_eq_true, Bool.not_eq_true', decide_eq_true_eq, decide_eq_false_iff_not, Bool.not_false, Bool.not_true, Bool.and_true, Bool.true_and, Bool.or_false, Bool.false_or, and_true, true_and, Int.ofNat_eq_natCast] at *; omega) | (simp only [Bool.or_eq_true, Bool.and_eq_true, Bool.not_eq_true', Bool.or_eq_false_iff, Bool.and_eq_false_iff, Bool.not_eq_false', decide_eq_true_eq, decide_eq_false_iff_not, Bool.not_false, Bool.not_true, Bool.and_true, Bool.true_and, Bool.or_false, Bool.false_or, and_true, true_and, Int.ofNat_eq_natCast] at *; grind) | grind)
      · have hs : i = s.size := Nat.le_antisymm hi (siltF hF h)
        subst hs
        refine hK _ _ ?_
        cbv
        refine retB hr (hq.trans ((nameRight_ends (allTo_iff.2 hp)).trans ?_))
        rw [decide_eq_true h1, decide_eq_true h2]; rfl
theorem iNameRight_ok (s : ByteArray) (hl : s.size ≤ maxLen) : CallOK Tryz.prog 78 [aS s] (B (nameRight s)) := by
  rw [maxLen_is] at hl
  obtain ⟨q, hq⟩ : ∃ q, q = nameRight s := ⟨_, rfl⟩
  rw [← hq]
  have hw := within_ok (prims.slen s) 1 20
  obtain ⟨M, hM⟩ := mapEx
  try simp only [hM]
  refine go Tryz.func78 rfl rfl rfl rfl fun pAdd pSub pMul pQuo pRem pAnd pOr pXor pAndNot pShl pShr pNeg pCompl pConv pLt pLe pEq pSlt pSle pSeq pCat pCatOk pSlen pSsub pSat pIadd pIsub pBnot pBeq pImin pImax pLlen pLsub pLapp pLset pLcopy pLenOk pBytes pRep hF Ca hC r hr => ?_
  cbv
  refine loop_all (fun a st => st.n 7 (Int.ofNat a)) (nameAt s) s.size rfl (fun K' hK I i hi hp ih => ?_)
  cbv
  refine brkI (fun h => ?_) (fun h => ?_) <;> try cbv
  · have hs : i < s.size := siltT hF h
    refine brT (zeroLe hF i) (brT (mkSilt hF hs) ?_)
    obtain ⟨c, hc⟩ : ∃ c, c = pSat s (Int.ofNat i) := ⟨_, rfl⟩
    have hc' : c = prims.sat s i := hc.trans (by rw [hF]; rfl)
    rw [← hc]
    have e1 : pAdd .i64 (Int.ofNat i) 1 = Int.ofNat (i + 1) := add1Is hF (by omega)
    repeat' (first
      | (refine brkI (fun h => ?_) (fun h => ?_) <;> try cbv))
    all_goals first
      | (conv => arg 1; cbv
         rw [e1]
         refine ih _ hs ?_ rfl)
      | (refine hK _ _ ?_
         cbv
         refine retB hr (hq.trans (nameRight_bad hs ?_)))
    all_goals
      clear hK ih hC hr hp hw
      have lD : ∀ a b, pLt a b = decide (a < b) := ltD hF
      have eD : ∀ a b, pLe a b = decide (a ≤ b) := leD hF
      have qD : ∀ a b, pEq a b = decide (a = b) := eqD hF
      have sD : ∀ a b, pSeq a b = decide (a = b) := seqD hF
      rw [nameAt, ← hc']
      simp only [lD, eD, qD] at *
      clear lD eD qD sD hF
      (first | (simp only [Bool.or_eq_true, Bool.and_eq_true, Bool.not_eq_true', Bool.or_eq_false_iff, Bool.and_eq_false_iff, Bool.not_eq_false', decide_eq_true_eq, decide_eq_false_iff_not, Bool.not_false, Bool.not_true, Bool.and_true, Bool.true_and, Bool.or_false, Bool.false_or, and_true, true_and, Int.ofNat_eq_natCast] at *; omega) | (simp only [Bool.eq_false_iff, ne_eq, Bool.or_eq_true, Bool.and_eq_true, Bool.not_eq_true', decide_eq_true_eq, decide_eq_false_iff_not, Bool.not_false, Bool.not_true, Bool.and_true, Bool.true_and, Bool.or_false, Bool.false_or, and_true, true_and, Int.ofNat_eq_natCast] at *; omega) | (simp only [Bool.or_eq_true, Bool.and_eq_true, Bool.not_eq_true', Bool.or_eq_false_iff, Bool.and_eq_false_iff, Bool.not_eq_false', decide_eq_true_eq, decide_eq_false_iff_not, Bool.not_false, Bool.not_true, Bool.and_true, Bool.true_and, Bool.or_false, Bool.false_or, and_true, true_and, Int.ofNat_eq_natCast] at *; grind) | grind)
  · have hs : i = s.size := Nat.le_antisymm hi (siltF hF h)
    subst hs
    have e2 : prims.slen s = pSlen s := by rw [hF]
    rw [e2] at hw
    have e3 : pSlen s = Int.ofNat s.size := slenIs hF s
    have hq' : q = (decide (1 ≤ pSlen s) && decide (pSlen s ≤ 20)) := by
      rw [hq, nameRight_ends (allTo_iff.2 hp), e3, Bool.eq_iff_iff]
      (first | (simp only [Bool.or_eq_true, Bool.and_eq_true, Bool.not_eq_true', Bool.or_eq_false_iff, Bool.and_eq_false_iff, Bool.not_eq_false', decide_eq_true_eq, decide_eq_false_iff_not, Bool.not_false, Bool.not_true, Bool.and_true, Bool.true_and, Bool.or_false, Bool.false_or, and_true, true_and, Int.ofNat_eq_natCast] at *; omega) | (simp only [Bool.eq_false_iff, ne_eq, Bool.or_eq_true, Bool.and_eq_true, Bool.not_eq_true', decide_eq_true_eq, decide_eq_false_iff_not, Bool.not_false, Bool.not_true, Bool.and_true, Bool.true_and, Bool.or_false, Bool.false_or, and_true, true_and, Int.ofNat_eq_natCast] at *; omega) | (simp only [Bool.or_eq_true, Bool.and_eq_true, Bool.not_eq_true', Bool.or_eq_false_iff, Bool.and_eq_false_iff, Bool.not_eq_false', decide_eq_true_eq, decide_eq_false_iff_not, Bool.not_false, Bool.not_true, Bool.and_true, Bool.true_and, Bool.or_false, Bool.false_or, and_true, true_and, Int.ofNat_eq_natCast] at *; grind) | grind)
    refine hK _ _ ?_
    cbv
    refine callB hC hw (fun h1 => ?_) (fun h1 => ?_) <;> cbv
    all_goals exact retB hr (hq'.trans h1)
end Go.Proofs.YtemfaiabbonpnaaGreatDoor
