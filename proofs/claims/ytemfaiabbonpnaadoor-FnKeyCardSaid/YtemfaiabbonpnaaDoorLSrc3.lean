/- Functions of the program, each with what it returns, run by the evaluator; the conditions stand in the theorems. -/
import Derived.Test.YtemfaiabbonpnaaDoorLSrc2
namespace Go.Proofs.YtemfaiabbonpnaaDoor
open Go Go.Proofs.YtemfaiabbonpnaaDoorW Go.Proofs
set_option linter.unusedVariables false
set_option linter.unusedSimpArgs false
set_option maxRecDepth 100000
set_option maxHeartbeats 8000000
def edgeL : List Int := [0, 1, -1, 2, 1000, 1001, 2147483648, 2147483647, -2147483648, 4611686018427387904, 9223372036854775807, -9223372036854775808, 1000000, 1000001]
theorem edge_ok (l : List UInt8) (a : Nat) (m z : Int) (hl : l.length ≤ 1048576) (ha : a ≤ l.length) :
    ∃ e, I64 e ∧ CallOK Tryd.prog 48 [.io (srcC (bytesL l) (Int.ofNat a) m z)] ⟨.c (.y (yN e)), [srcC (bytesL l) (Int.ofNat (nAt l a 14)) (nMix m 14) z]⟩ := by
  have c1 := n_ok l a m z 14 hl ha (by decide)
  have hr0 := nRes_range l a m 14
  obtain ⟨q, hq⟩ : ∃ q, q = nRes l a m 14 := ⟨_, rfl⟩
  obtain ⟨a', ha'⟩ : ∃ q, q = nAt l a 14 := ⟨_, rfl⟩
  obtain ⟨m', hm'⟩ : ∃ q, q = nMix m 14 := ⟨_, rfl⟩
  obtain ⟨xs, hx⟩ : ∃ xs, xs = bytesL l := ⟨_, rfl⟩
  rw [← hq] at hr0
  rw [← hq, ← ha', ← hm', ← hx] at c1
  rw [← ha', ← hm', ← hx]
  obtain ⟨n, hn⟩ : ∃ n : Nat, q = Int.ofNat n := ⟨q.toNat, by ((try simp only [Int.ofNat_eq_natCast] at *); omega)⟩
  have hn14 : n < 14 := by ((try simp only [Int.ofNat_eq_natCast] at *); omega)
  have hE : edgeL.length = 14 := rfl
  refine ⟨edgeL[n], ?_, ?_⟩
  · have : ∀ v ∈ edgeL, I64 v := by unfold I64; decide
    exact this _ (List.getElem_mem _)
  obtain ⟨e, he⟩ : ∃ e, e = edgeL[n] := ⟨_, rfl⟩
  rw [← he]
  have hg : (edgeL.map rowI)[n]? = some [yN e] := by rw [List.getElem?_map, List.getElem?_eq_getElem (by omega), he]; rfl
  obtain ⟨M, hM⟩ := mapEx
  try simp only [hM]
  refine go Tryd.func48 rfl rfl rfl rfl fun pAdd pSub pMul pQuo pRem pAnd pOr pXor pAndNot pShl pShr pNeg pCompl pConv pLt pLe pEq pSlt pSle pSeq pCat pCatOk pSlen pSsub pSat pIadd pIsub pBnot pBeq pImin pImax pLlen pLsub pLapp pLset pLcopy pLenOk pBytes pRep hF Ca hC r hr => ?_
  cbv
  refine callI hC c1 ?_
  cbv
  rw [hn]
  have e14 : pLlen (edgeL.map rowI) = 14 := (llenIs hF _).trans rfl
  refine brT (zeroLe hF n) ?_
  try cbv
  refine brT (mkLt hF (show Int.ofNat n < pLlen (edgeL.map rowI) by rw [e14]; ((try simp only [Int.ofNat_eq_natCast] at *); omega))) ?_
  try cbv
  refine ⟨[yN e], ⟨Int.natCast_nonneg _, hg⟩, ?_⟩
  cbv
  exact hr.symm
/-- Bytes drawn. -/
def bytesGo (l : List UInt8) : Nat → Nat → Int → List UInt8 × Nat × Int
  | 0, a, m => ([], a, m)
  | k + 1, a, m => (UInt8.ofNat (nRes l a m 256).toNat :: (bytesGo l k (nAt l a 256) (nMix m 256)).1, (bytesGo l k (nAt l a 256) (nMix m 256)).2)
theorem bytesGo_len (l : List UInt8) : ∀ k a m, (bytesGo l k a m).1.length = k
  | 0, _, _ => rfl
  | k + 1, a, m => by rw [bytesGo, List.length_cons, bytesGo_len l k]
theorem bytesGo_at (l : List UInt8) : ∀ k a m, a ≤ l.length → (bytesGo l k a m).2.1 ≤ l.length
  | 0, _, _, h => h
  | k + 1, a, m, h => by rw [bytesGo]; exact bytesGo_at l k _ _ (nAt_le l a 256 h)
end Go.Proofs.YtemfaiabbonpnaaDoor
