/- Functions of the program, each with what it returns, run by the evaluator; the conditions stand in the theorems. -/
import Derived.Test.YtemfaiabbonpnaaLSrc3
namespace Go.Proofs.Ytemfaiabbonpnaa
open Go Go.Proofs.YtemfaiabbonpnaaW Go.Proofs
set_option linter.unusedVariables false
set_option linter.unusedSimpArgs false
set_option maxRecDepth 100000
set_option maxHeartbeats 8000000
theorem natOf {x : Int} (h : 0 ≤ x) : ∃ q : Nat, x = Int.ofNat q := ⟨x.toNat, (Int.toNat_of_nonneg h).symm⟩
def zerosN (c : Nat) : ByteArray := ⟨⟨List.replicate c 0⟩⟩
theorem drawSeal_t (xs : List (List Y)) (m z a1 m1 a2 m2 : Int) (q : Nat) (hq : q < 3) (c1 : CallOK Try.prog 19 [.c (.y (.sl 1 xs))] ⟨.c (.own 0 [[.sl 1 xs, yN 0, .sc (.int .u64 m), yN z]]), []⟩)
    (c2 : CallOK Try.prog 20 [.io (srcC xs 0 m z), aN 30] ⟨.c (.y (yB true)), [srcC xs a1 m1 z]⟩)
    (c3 : CallOK Try.prog 21 [.io (srcC xs a1 m1 z), aN 3] ⟨.c (.y (yN (Int.ofNat q))), [srcC xs a2 m2 z]⟩) :
    CallOK Try.prog 5 [.c (.y (.sl 1 xs))] (St (zerosN (19995 + q))) := by
  obtain ⟨t, ht⟩ : ∃ t, t = zerosN (19995 + q) := ⟨_, rfl⟩
  rw [← ht]
  obtain ⟨w, hw⟩ : ∃ w : Nat, w = 19995 + q := ⟨_, rfl⟩
  rw [← hw] at ht
  obtain ⟨M, hM⟩ := mapEx
  try simp only [hM]
  refine go Try.func5 rfl rfl rfl rfl fun pAdd pSub pMul pQuo pRem pAnd pOr pXor pAndNot pShl pShr pNeg pCompl pConv pLt pLe pEq pSlt pSle pSeq pCat pCatOk pSlen pSsub pSat pIadd pIsub pBnot pBeq pImin pImax pLlen pLsub pLapp pLset pLcopy pLenOk pBytes pRep hF Ca hC r hr => ?_
  cbv
  refine callI hC c1 ?_
  cbv
  refine callI hC c2 ?_
  cbv
  refine callI hC c3 ?_
  cbv
  have e1 : pAdd .i64 19995 (Int.ofNat q) = Int.ofNat w := (addIs hF (by ((try simp only [Int.ofNat_eq_natCast] at *); omega)) (by ((try simp only [Int.ofNat_eq_natCast] at *); omega))).trans (by ((try simp only [Int.ofNat_eq_natCast] at *); omega))
  rw [e1]
  refine brT (zeroLe hF w) ?_
  try cbv
  refine brT (leSelf hF _) ?_
  try cbv
  refine brT (lenOkIs hF (by ((try simp only [Int.ofNat_eq_natCast] at *); omega))) ?_
  try cbv
  have er : pRep (Int.ofNat w) [Y.sc (Value.int IntKind.u8 0)] = bytesL (List.replicate w 0) := by
    have : pRep (Int.ofNat w) [Y.sc (Value.int IntKind.u8 0)] = List.replicate w [Y.sc (Value.int IntKind.u8 0)] := repIs hF w _
    rw [this]; simp [bytesL]
  refine ⟨t, ⟨by rw [er, ht]; rfl⟩, ?_⟩
  cbv
  exact hr.symm
theorem drawSeal_f (xs : List (List Y)) (m z a1 m1 a2 m2 a3 m3 q : Int) (t : ByteArray) (c1 : CallOK Try.prog 19 [.c (.y (.sl 1 xs))] ⟨.c (.own 0 [[.sl 1 xs, yN 0, .sc (.int .u64 m), yN z]]), []⟩)
    (c2 : CallOK Try.prog 20 [.io (srcC xs 0 m z), aN 30] ⟨.c (.y (yB false)), [srcC xs a1 m1 z]⟩)
    (c3 : CallOK Try.prog 21 [.io (srcC xs a1 m1 z), aN 20] ⟨.c (.y (yN q)), [srcC xs a2 m2 z]⟩)
    (c4 : CallOK Try.prog 22 [.io (srcC xs a2 m2 z), aN q] ⟨.c (.y (yS t)), [srcC xs a3 m3 z]⟩) :
    CallOK Try.prog 5 [.c (.y (.sl 1 xs))] (St t) := by
  obtain ⟨M, hM⟩ := mapEx
  try simp only [hM]
  refine go Try.func5 rfl rfl rfl rfl fun pAdd pSub pMul pQuo pRem pAnd pOr pXor pAndNot pShl pShr pNeg pCompl pConv pLt pLe pEq pSlt pSle pSeq pCat pCatOk pSlen pSsub pSat pIadd pIsub pBnot pBeq pImin pImax pLlen pLsub pLapp pLset pLcopy pLenOk pBytes pRep hF Ca hC r hr => ?_
  cbv
  refine callI hC c1 ?_
  cbv
  refine callI hC c2 ?_
  cbv
  refine callI hC c3 ?_
  cbv
  refine callI hC c4 ?_
  cbv
  exact hr.symm
theorem drawSeal_ok (l : List UInt8) (hl : l.length ≤ 1048576) : ∃ t : ByteArray, t.size ≤ 19997 ∧ CallOK Try.prog 5 [.c (.y (.sl 1 (bytesL l)))] (St t) := by
  have c1 := source_ok l hl
  have c2 := one_ok l 0 (mixAt l (min l.length 64)) (srcZ l) 30 hl (Nat.zero_le _) (by decide)
  have a1 := nAt_le l 0 30 (Nat.zero_le _)
  have c3 := n_ok l _ (nMix (mixAt l (min l.length 64)) 30) (srcZ l) 3 hl a1 (by decide)
  have c4 := n_ok l _ (nMix (mixAt l (min l.length 64)) 30) (srcZ l) 20 hl a1 (by decide)
  have a4 := nAt_le l _ 20 a1
  have r3 := nRes_range l (nAt l 0 30) (nMix (mixAt l (min l.length 64)) 30) 3
  have r4 := nRes_range l (nAt l 0 30) (nMix (mixAt l (min l.length 64)) 30) 20
  rw [show Int.ofNat 0 = 0 from rfl] at c2
  cases hb : decide (nRes l 0 (mixAt l (min l.length 64)) 30 = 0) with
  | true =>
    rw [hb] at c2
    obtain ⟨q, hq⟩ : ∃ q : Nat, nRes l (nAt l 0 30) (nMix (mixAt l (min l.length 64)) 30) 3 = Int.ofNat q := natOf (by omega)
    rw [hq] at c3 r3
    refine ⟨_, ?_, drawSeal_t _ _ _ _ _ _ _ q (by ((try simp only [Int.ofNat_eq_natCast] at *); omega)) c1 c2 c3⟩
    show (List.replicate _ _).length ≤ _
    rw [List.length_replicate]; ((try simp only [Int.ofNat_eq_natCast] at *); omega)
  | false =>
    rw [hb] at c2
    obtain ⟨q, hq⟩ : ∃ q : Nat, nRes l (nAt l 0 30) (nMix (mixAt l (min l.length 64)) 30) 20 = Int.ofNat q := natOf (by omega)
    rw [hq] at c4 r4
    have c5 := bytes_ok l _ (nMix (nMix (mixAt l (min l.length 64)) 30) 20) (srcZ l) q hl a4 (by ((try simp only [Int.ofNat_eq_natCast] at *); omega))
    refine ⟨_, ?_, drawSeal_f _ _ _ _ _ _ _ _ _ _ _ c1 c2 c4 c5⟩
    show (bytesGo _ _ _ _).1.length ≤ _
    rw [bytesGo_len]; ((try simp only [Int.ofNat_eq_natCast] at *); omega)
end Go.Proofs.Ytemfaiabbonpnaa
