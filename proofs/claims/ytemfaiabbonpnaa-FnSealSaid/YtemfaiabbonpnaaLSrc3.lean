/- Functions of the program, each with what it returns, run by the evaluator; the conditions stand in the theorems. -/
import Derived.Test.YtemfaiabbonpnaaLSrc2
namespace Go.Proofs.Ytemfaiabbonpnaa
open Go Go.Proofs.YtemfaiabbonpnaaW Go.Proofs
set_option linter.unusedVariables false
set_option linter.unusedSimpArgs false
set_option maxRecDepth 100000
set_option maxHeartbeats 8000000
def edgeL : List Int := [0, 1, -1, 2, 1000, 1001, 2147483648, 2147483647, -2147483648, 4611686018427387904, 9223372036854775807, -9223372036854775808, 1000000, 1000001]
theorem edge_ok (l : List UInt8) (a : Nat) (m z : Int) (hl : l.length ≤ 1048576) (ha : a ≤ l.length) :
    ∃ e, I64 e ∧ CallOK Try.prog 27 [.io (srcC (bytesL l) (Int.ofNat a) m z)] ⟨.c (.y (yN e)), [srcC (bytesL l) (Int.ofNat (nAt l a 14)) (nMix m 14) z]⟩ := by
  have c1 := n_ok l a m z 14 hl ha (by decide)
  have hr0 := nRes_range l a m 14
  obtain ⟨q, hq⟩ : ∃ q, q = nRes l a m 14 := ⟨_, rfl⟩
  obtain ⟨a', ha'⟩ : ∃ q, q = nAt l a 14 := ⟨_, rfl⟩
  obtain ⟨m', hm'⟩ : ∃ q, q = nMix m 14 := ⟨_, rfl⟩
  obtain ⟨xs, hx⟩ : ∃ xs, xs = bytesL l := ⟨_, rfl⟩
  rw [← hq] at hr0
  rw [← hq, ← ha', ← hm', ← hx] at c1
  rw [← ha', ← hm', ← hx]
  obtain ⟨n, hn⟩ : ∃ n : Nat, q = Int.ofNat n := ⟨q.toNat, by ((try simp only [Int.ofNat_eq_natCast] at *); omega)⟩
  have hn14 : n < 14 := by ((try simp only [Int.ofNat_eq_natCast] at *); omega)
  have hE : edgeL.length = 14 := rfl
  refine ⟨edgeL[n], ?_, ?_⟩
  · have : ∀ v ∈ edgeL, I64 v := by unfold I64; decide
    exact this _ (List.getElem_mem _)
  obtain ⟨e, he⟩ : ∃ e, e = edgeL[n] := ⟨_, rfl⟩
  rw [← he]
  have hg : (edgeL.map rowI)[n]? = some [yN e] := by rw [List.getElem?_map, List.getElem?_eq_getElem (by omega), he]; rfl
  obtain ⟨M, hM⟩ := mapEx
  try simp only [hM]
  refine go Try.func27 rfl rfl rfl rfl fun pAdd pSub pMul pQuo pRem pAnd pOr pXor pAndNot pShl pShr pNeg pCompl pConv pLt pLe pEq pSlt pSle pSeq pCat pCatOk pSlen pSsub pSat pIadd pIsub pBnot pBeq pImin pImax pLlen pLsub pLapp pLset pLcopy pLenOk pBytes pRep hF Ca hC r hr => ?_
  cbv
  refine callI hC c1 ?_
  cbv
  rw [hn]
  have e14 : pLlen (edgeL.map rowI) = 14 := (llenIs hF _).trans rfl
  refine brT (zeroLe hF n) ?_
  try cbv
  refine brT (mkLt hF (show Int.ofNat n < pLlen (edgeL.map rowI) by rw [e14]; ((try simp only [Int.ofNat_eq_natCast] at *); omega))) ?_
  try cbv
  refine ⟨[yN e], ⟨Int.natCast_nonneg _, hg⟩, ?_⟩
  cbv
  exact hr.symm
/-- Bytes drawn. -/
def bytesGo (l : List UInt8) : Nat → Nat → Int → List UInt8 × Nat × Int
  | 0, a, m => ([], a, m)
  | k + 1, a, m => (UInt8.ofNat (nRes l a m 256).toNat :: (bytesGo l k (nAt l a 256) (nMix m 256)).1, (bytesGo l k (nAt l a 256) (nMix m 256)).2)
theorem bytesGo_len (l : List UInt8) : ∀ k a m, (bytesGo l k a m).1.length = k
  | 0, _, _ => rfl
  | k + 1, a, m => by rw [bytesGo, List.length_cons, bytesGo_len l k]
theorem bytesGo_at (l : List UInt8) : ∀ k a m, a ≤ l.length → (bytesGo l k a m).2.1 ≤ l.length
  | 0, _, _, h => h
  | k + 1, a, m, h => by rw [bytesGo]; exact bytesGo_at l k _ _ (nAt_le l a 256 h)
theorem bytes_ok (l : List UInt8) (a : Nat) (m z : Int) (n : Nat) (hl : l.length ≤ 1048576) (ha : a ≤ l.length) (hn : n ≤ 1000000) :
    CallOK Try.prog 22 [.io (srcC (bytesL l) (Int.ofNat a) m z), aN (Int.ofNat n)] ⟨.c (.y (yS ⟨⟨(bytesGo l n a m).1⟩⟩)), [srcC (bytesL l) (Int.ofNat (bytesGo l n a m).2.1) (bytesGo l n a m).2.2 z]⟩ := by
  obtain ⟨q, hq⟩ : ∃ q, q = bytesGo l n a m := ⟨_, rfl⟩
  have c1 := fun a m (ha : a ≤ l.length) => n_ok l a m z 256 hl ha (by decide)
  obtain ⟨xs, hx⟩ : ∃ xs, xs = bytesL l := ⟨_, rfl⟩
  rw [← hx] at c1
  rw [← hx, ← hq]
  clear hx
  obtain ⟨qs, qa, qm⟩ := q
  obtain ⟨qt, hqt⟩ : ∃ t : ByteArray, t = ⟨⟨qs⟩⟩ := ⟨_, rfl⟩
  dsimp only
  rw [← hqt]
  obtain ⟨M, hM⟩ := mapEx
  try simp only [hM]
  refine go Try.func22 rfl rfl rfl rfl fun pAdd pSub pMul pQuo pRem pAnd pOr pXor pAndNot pShl pShr pNeg pCompl pConv pLt pLe pEq pSlt pSle pSeq pCat pCatOk pSlen pSsub pSat pIadd pIsub pBnot pBeq pImin pImax pLlen pLsub pLapp pLset pLcopy pLenOk pBytes pRep hF Ca hC r hr => ?_
  cbv
  refine loop_u (α := Nat × List (List Y) × Nat × Int × Nat) (fun s st => (((st.n 6 (Int.ofNat s.1)).ob 5001 (.ar 1 s.2.1))).ob 0 (.bx [.y (.sl 1 xs), .y (yN (Int.ofNat s.2.2.1)), .y (.sc (.int .u64 s.2.2.2.1)), .y (yN z)])) (fun s => s.1 + s.2.2.2.2 = n ∧ s.2.2.1 ≤ l.length ∧ ∃ pre, s.2.1 = bytesL pre ∧ pre.length = s.1 ∧ (qs, qa, qm) = (pre ++ (bytesGo l s.2.2.2.2 s.2.2.1 s.2.2.2.1).1, (bytesGo l s.2.2.2.2 s.2.2.1 s.2.2.2.1).2)) (fun s => s.2.2.2.2) (0, [], a, m, n) rfl ⟨by dsimp only; omega, ha, [], rfl, rfl, by dsimp only; rw [hq]; rfl⟩ (fun K' hK I s hi ih => ?_)
  obtain ⟨i, acc, a, m, k⟩ := s
  obtain ⟨hk, ha, pre, hacc, hpre, hq⟩ := hi
  dsimp only at hk ha hq hacc hpre
  have epre : acc.length = i := by rw [hacc, bytesL, List.length_map, hpre]
  cbv
  refine brkI (fun h => ?_) (fun h => ?_) <;> try cbv
  · have h := ltT hF h
    obtain ⟨k, rfl⟩ : ∃ k', k = k' + 1 := ⟨k - 1, by ((try simp only [Int.ofNat_eq_natCast] at *); omega)⟩
    have c2 := c1 a m ha
    have hr0 := nRes_range l a m 256
    rw [bytesGo] at hq
    obtain ⟨a2, ha2⟩ : ∃ q, q = nAt l a 256 := ⟨_, rfl⟩
    obtain ⟨m2, hm2⟩ : ∃ q, q = nMix m 256 := ⟨_, rfl⟩
    obtain ⟨n0, hn0⟩ : ∃ q, q = nRes l a m 256 := ⟨_, rfl⟩
    have ha2' : a2 ≤ l.length := by rw [ha2]; exact nAt_le l a 256 ha
    rw [← ha2, ← hm2, ← hn0] at c2 hq
    rw [← hn0] at hr0
    obtain ⟨n1, hn1⟩ : ∃ n1 : Nat, n0 = Int.ofNat n1 := ⟨n0.toNat, by ((try simp only [Int.ofNat_eq_natCast] at *); omega)⟩
    rw [hn1] at c2 hq
    have hlt : n1 < 256 := by ((try simp only [Int.ofNat_eq_natCast] at *); omega)
    refine callI hC c2 ?_
    cbv
    have ec : pConv .u8 (Int.ofNat n1) = Int.ofNat n1 := by
      have : prims.conv .u8 (Int.ofNat n1) = Int.ofNat n1 := (conv_u8 _).trans (by ((try simp only [Int.ofNat_eq_natCast] at *); omega))
      rw [hF] at this; exact this
    rw [ec]
    refine brT (lenOkIs hF (by
      rw [show pLlen acc = Int.ofNat i from (llenIs hF _).trans (by rw [epre]; rfl), show pLlen [[Y.sc (.int .u8 (Int.ofNat n1))]] = 1 from (llenIs hF _).trans rfl]
      have e5 : pIadd (Int.ofNat i) 1 = Int.ofNat i + 1 := by
        have : prims.iadd (Int.ofNat i) 1 = Int.ofNat i + 1 := rfl
        rw [hF] at this; exact this
      rw [e5]; ((try simp only [Int.ofNat_eq_natCast] at *); omega))) ?_
    try cbv
    conv => arg 1; cbv
    have e1 : pAdd .i64 (Int.ofNat i) 1 = Int.ofNat (i + 1) := add1Is hF (by ((try simp only [Int.ofNat_eq_natCast] at *); omega))
    have e2 : pLapp acc [[.sc (.int .u8 (Int.ofNat n1))]] = bytesL (pre ++ [UInt8.ofNat n1]) := by
      have : pLapp acc [[.sc (.int .u8 (Int.ofNat n1))]] = acc ++ [[.sc (.int .u8 (Int.ofNat n1))]] := lappIs hF _ _
      rw [this, hacc, bytesL, bytesL, List.map_append]
      exact congrArg _ (congrArg (fun y => [[y]]) (byteY n1 hlt))
    rw [e1, e2]
    exact ih (i + 1, _, a2, m2, k) _ ⟨by dsimp only; omega, ha2', pre ++ [UInt8.ofNat n1], rfl, by rw [List.length_append, hpre]; rfl, by dsimp only; rw [hq, List.append_assoc]; rfl⟩ (by dsimp only; omega) rfl
  · have h := ltF hF h
    obtain rfl : k = 0 := by ((try simp only [Int.ofNat_eq_natCast] at *); omega)
    refine hK _ _ ?_
    cbv
    rw [bytesGo] at hq
    simp only [Prod.mk.injEq, List.append_nil] at hq
    obtain ⟨hq1, hq2, hq3⟩ := hq
    refine ⟨qt, ⟨by rw [hqt, hacc, hq1]⟩, ?_⟩
    cbv
    rw [hq2, hq3] at hr
    exact hr.symm
end Go.Proofs.Ytemfaiabbonpnaa
