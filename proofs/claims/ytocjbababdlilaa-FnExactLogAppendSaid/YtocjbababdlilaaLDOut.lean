/- Functions of the program, each with what it returns, run by the evaluator; the conditions stand in the theorems. -/
import Derived.Test.YtocjbababdlilaaLMarkD
namespace Go.Proofs.Ytocjbababdlilaa
open Go Go.Proofs.YtocjbababdlilaaW Go.Proofs
set_option linter.unusedVariables false
set_option linter.unusedSimpArgs false
set_option maxRecDepth 100000
set_option maxHeartbeats 8000000
theorem Dsk.bigU {d : Dsk} (h : Dsk.Bd 1048576 d) : Dsk.Bd maxLen d := ⟨⟨Nat.le_trans h.1.1 (by decide), fun v hv => Nat.le_trans (h.1.2 v hv) (by decide)⟩, ⟨Nat.le_trans h.2.1.1 (by decide), fun v hv => ⟨Nat.le_trans (h.2.1.2 v hv).1 (by decide), trivial⟩⟩, trivial⟩
/-- A disk of lists of its own, a text, a code. -/
abbrev outDR (f : Dsk) (tx : ByteArray) (cd : Int) : Res := ⟨.agg [.own 1 (f.secs.map rowS), .own 2 (f.cache.map Wr.row), .y (yS tx), .y (yN cd)], []⟩
theorem eqDOut_ok (f : Dsk) (tx : ByteArray) (cd : Int) (hb : Dsk.Bd maxLen f) : CallOK Try.prog 33 [.agg [.y (.sl 1 (f.secs.map rowS)), .y (.sl 2 (f.cache.map Wr.row)), .y (yS tx), .y (yN cd)], .agg [.y (.sl 1 (f.secs.map rowS)), .y (.sl 2 (f.cache.map Wr.row)), .y (yS tx), .y (yN cd)]] (B true) := by
  have h := eqDisk_ok f hb
  obtain ⟨M, hM⟩ := mapEx
  try simp only [hM]
  refine go Try.func33 rfl rfl rfl rfl fun pAdd pSub pMul pQuo pRem pAnd pOr pXor pAndNot pShl pShr pNeg pCompl pConv pLt pLe pEq pSlt pSle pSeq pCat pCatOk pSlen pSsub pSat pIadd pIsub pBnot pBeq pImin pImax pLlen pLsub pLapp pLset pLcopy pLenOk pBytes pRep hF Ca hC r hr => ?_
  cbv
  refine callB hC (by have hh := h; (try simp only [hM] at hh); exact hh) (fun hh => ?_) (fun hh => by cases hh)
  try cbv
  repeat' (first
    | (exact hr.symm)
    | (exact absurd rfl (eqF hF ‹_›))
    | (exact absurd rfl (seqF hF ‹_›))
    | (refine brkI (fun h => ?_) (fun h => ?_) <;> try cbv))
theorem markDOut_ok (f : Dsk) (tx : ByteArray) (cd : Int) (k : Nat) (h1 : f.secs.length ≤ 1048576) (h2 : f.cache.length ≤ 1048576) (hk : k ≤ 1000000000) : CallOK Try.prog 34 [.ir true [.own 1 (f.secs.map rowS), .own 2 (f.cache.map Wr.row), .y (yS tx), .y (yN cd)], aN (Int.ofNat k)] ⟨.c (.y (.sc (.int .i64 (Int.ofNat (toDisk k f))))), [[.own 1 ((mkDisk k f).secs.map rowS), .own 2 ((mkDisk k f).cache.map Wr.row), .no, .no]]⟩ := by
  have c1 := markDisk_ok f k h1 h2 hk
  obtain ⟨k1, hk1⟩ : ∃ k1, k1 = toDisk k f := ⟨_, rfl⟩
  obtain ⟨ms, hms⟩ : ∃ k1, k1 = mkDisk k f := ⟨_, rfl⟩
  rw [← hk1, ← hms] at c1 ⊢
  clear hms hk1
  obtain ⟨M, hM⟩ := mapEx
  try simp only [hM]
  refine go Try.func34 rfl rfl rfl rfl fun pAdd pSub pMul pQuo pRem pAnd pOr pXor pAndNot pShl pShr pNeg pCompl pConv pLt pLe pEq pSlt pSle pSeq pCat pCatOk pSlen pSsub pSat pIadd pIsub pBnot pBeq pImin pImax pLlen pLsub pLapp pLset pLcopy pLenOk pBytes pRep hF Ca hC r hr => ?_
  cbv
  refine callI hC (by have hh := c1; (try simp only [hM] at hh); exact hh) ?_
  cbv
  exact hr.symm
theorem heldDOut_ok (f : Dsk) (tx : ByteArray) (cd : Int) (k : Nat) (h1 : f.secs.length ≤ 1048576) (h2 : f.cache.length ≤ 1048576) (hk : k ≤ 1000000000) : CallOK Try.prog 35 [.agg [.y (.sl 1 ((mkDisk k f).secs.map rowS)), .y (.sl 2 ((mkDisk k f).cache.map Wr.row)), .y (yS tx), .y (yN cd)], aN (Int.ofNat k)] (N (Int.ofNat (toDisk k f))) := by
  have c1 := heldDisk_ok f k h1 h2 hk
  obtain ⟨k1, hk1⟩ : ∃ k1, k1 = toDisk k f := ⟨_, rfl⟩
  obtain ⟨ms, hms⟩ : ∃ k1, k1 = mkDisk k f := ⟨_, rfl⟩
  rw [← hk1, ← hms] at c1 ⊢
  clear hms hk1
  obtain ⟨M, hM⟩ := mapEx
  try simp only [hM]
  refine go Try.func35 rfl rfl rfl rfl fun pAdd pSub pMul pQuo pRem pAnd pOr pXor pAndNot pShl pShr pNeg pCompl pConv pLt pLe pEq pSlt pSle pSeq pCat pCatOk pSlen pSsub pSat pIadd pIsub pBnot pBeq pImin pImax pLlen pLsub pLapp pLset pLcopy pLenOk pBytes pRep hF Ca hC r hr => ?_
  cbv
  refine callI hC (by have hh := c1; (try simp only [hM] at hh); exact hh) ?_
  cbv
  refine brkI (fun h => ?_) (fun h => ?_) <;> try cbv
  · exact absurd (ltT hF h) (by ((try simp only [Int.ofNat_eq_natCast] at *); omega))
  exact hr.symm
end Go.Proofs.Ytocjbababdlilaa
