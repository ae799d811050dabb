/- Functions of the program, each with what it returns, run by the evaluator; the conditions stand in the theorems. -/
import Derived.Test.YthaelohccopgjaaLTr5
namespace Go.Proofs.Ythaelohccopgjaa
open Go Go.Proofs.YthaelohccopgjaaW Go.Proofs
set_option linter.unusedVariables false
set_option linter.unusedSimpArgs false
set_option maxRecDepth 100000
set_option maxHeartbeats 8000000
/-! how many keys -/
def cntRun (f : Nat → Int) : Nat → Nat → Int → Int
  | _, 0, a => a
  | i, m + 1, a => cntRun f (i + 1) m (prims.add .i64 a (f i))
def cnt : Nat → Tr → Int
  | 0, _ => 0
  | n + 1, t => cntRun (fun i => cnt n (t.kid i)) 0 t.kids.length (Int.ofNat t.keys.length)
theorem iSize_of (k : Nat) (t : Tr) (b1 : t.keys.length ≤ maxLen) (b3 : t.kids.length ≤ maxLen) (ih : ∀ c ∈ t.kids, CallOK Try.prog 45 [.agg [.y (.sl 1 (c.keys.map rowS)), .y (.sl 1 (c.vals.map rowS)), .y (.sl 3 (c.kids.map Tr.row))]] (N (cnt k c))) :
    CallOK Try.prog 45 [.agg [.y (.sl 1 (t.keys.map rowS)), .y (.sl 1 (t.vals.map rowS)), .y (.sl 3 (t.kids.map Tr.row))]] (N (cnt (k + 1) t)) := by
  rw [maxLen_is] at b1 b3
  obtain ⟨q, hq⟩ : ∃ q, q = cnt (k + 1) t := ⟨_, rfl⟩
  rw [← hq]
  rw [cnt] at hq
  obtain ⟨nk, hnk⟩ : ∃ n, n = t.kids.length := ⟨_, rfl⟩
  obtain ⟨n, hn⟩ : ∃ n, n = t.keys.length := ⟨_, rfl⟩
  rw [← hnk, ← hn] at hq
  rw [← hnk] at b3
  rw [← hn] at b1
  obtain ⟨M, hM⟩ := mapEx
  try simp only [hM]
  refine go Try.func45 rfl rfl rfl rfl fun pAdd pSub pMul pQuo pRem pAnd pOr pXor pAndNot pShl pShr pNeg pCompl pConv pLt pLe pEq pSlt pSle pSeq pCat pCatOk pSlen pSsub pSat pIadd pIsub pBnot pBeq pImin pImax pLlen pLsub pLapp pLset pLcopy pLenOk pBytes pRep hF Ca hC r hr => ?_
  cbv
  have lk : pLlen (M rowS t.keys) = Int.ofNat n := (llenIs hF _).trans (by rw [← hM, List.length_map, ← hn]; rfl)
  have lkk : pLlen (M Tr.row t.kids) = Int.ofNat nk := (llenIs hF _).trans (by rw [← hM, List.length_map, ← hnk]; rfl)
  have e0 : pConv .i64 (Int.ofNat n) = Int.ofNat n := by
    have : prims.conv .i64 (Int.ofNat n) = Int.ofNat n := wrap_i64 (by ((try simp only [Int.ofNat_eq_natCast] at *); omega)) (by ((try simp only [Int.ofNat_eq_natCast] at *); omega))
    rw [hF] at this; exact this
  rw [lk]
  try rw [e0]
  rw [lkk]
  refine loop_u (α := Nat × Int) (fun a st => (st.n 3 a.2).n 12 (Int.ofNat a.1)) (fun a => a.1 ≤ nk ∧ q = cntRun (fun i => cnt k (t.kid i)) a.1 (nk - a.1) a.2) (fun a => nk - a.1) (0, Int.ofNat n) rfl ⟨by omega, hq⟩ (fun K' hK I a hi ih1 => ?_)
  obtain ⟨i, acc⟩ := a
  obtain ⟨hi, hq⟩ := hi
  dsimp only at hi hq
  cbv
  refine brkI (fun h0 => ?_) (fun h0 => ?_) <;> try cbv
  · have h0 := ltT hF h0
    have h0 : i < nk := by ((try simp only [Int.ofNat_eq_natCast] at *); omega)
    have hs : i < t.kids.length := by omega
    have e2 : pAdd .i64 (Int.ofNat i) 1 = Int.ofNat (i + 1) := add1Is hF (by omega)
    refine lgetM (l := t.kids) (fun u => [.sl 1 (M rowS u.keys), .sl 1 (M rowS u.vals), .sl 3 (M Tr.row u.kids)]) (fun u => by simp only [Tr.row_eq, hM]) (hM _ _).symm hs fun c hc => ?_
    cbv
    have kc : t.kid i = c := getD_of hs hc
    refine callN hC (by have hh := ih c (hc ▸ List.getElem_mem hs); (try simp only [hM] at hh); exact hh) (fun m hm => ?_)
    cbv
    rw [show nk - i = (nk - (i + 1)) + 1 from by omega, cntRun, kc, ← hm] at hq
    have e3 : pAdd .i64 acc m = prims.add .i64 acc m := by rw [hF]
    conv => arg 1; cbv
    rw [e2, e3]
    exact ih1 (i + 1, _) _ ⟨by dsimp only; omega, hq⟩ (by dsimp only; omega) rfl
  · have h0 := ltF hF h0
    have hi2 : i = nk := by ((try simp only [Int.ofNat_eq_natCast] at *); omega)
    rw [hi2, Nat.sub_self, cntRun] at hq
    refine hK _ _ ?_
    cbv
    exact retN hr hq
theorem iSizeN_ok : ∀ (k : Nat) (t : Tr), Tr.Le k t → Tr.Bd maxLen t → CallOK Try.prog 45 [.agg [.y (.sl 1 (t.keys.map rowS)), .y (.sl 1 (t.vals.map rowS)), .y (.sl 3 (t.kids.map Tr.row))]] (N (cnt k t))
  | 0, _, h, _ => h.elim
  | k + 1, t, hl, ⟨_, b1, _, _, _, b3, b4⟩ => iSize_of k t b1 b3 fun c hc => iSizeN_ok k c (hl c hc) (b4 c hc)
noncomputable def sizeT (t : Tr) : Int := if rightT t then cnt t.le_ex.choose t else 0
theorem iTreeSize_ok (t : Tr) (hb : Tr.Bd 1048576 t) : CallOK Try.prog 15 [.agg [.y (.sl 1 (t.keys.map rowS)), .y (.sl 1 (t.vals.map rowS)), .y (.sl 3 (t.kids.map Tr.row))]] (N (sizeT t)) := by
  have c1 := iTreeRight_ok t hb
  have c2 := iSizeN_ok _ t t.le_ex.choose_spec hb.up
  have hq0 : sizeT t = if rightT t = true then cnt t.le_ex.choose t else 0 := rfl
  obtain ⟨b, hb'⟩ : ∃ b, b = rightT t := ⟨_, rfl⟩
  rw [← hb'] at c1 hq0
  obtain ⟨d, hd⟩ : ∃ b, b = cnt t.le_ex.choose t := ⟨_, rfl⟩
  rw [← hd] at c2 hq0
  obtain ⟨q, hq⟩ : ∃ q, q = sizeT t := ⟨_, rfl⟩
  rw [← hq] at hq0 ⊢
  obtain ⟨M, hM⟩ := mapEx
  try simp only [hM]
  refine go Try.func15 rfl rfl rfl rfl fun pAdd pSub pMul pQuo pRem pAnd pOr pXor pAndNot pShl pShr pNeg pCompl pConv pLt pLe pEq pSlt pSle pSeq pCat pCatOk pSlen pSsub pSat pIadd pIsub pBnot pBeq pImin pImax pLlen pLsub pLapp pLset pLcopy pLenOk pBytes pRep hF Ca hC r hr => ?_
  cbv
  refine callB hC (by have hh := c1; (try simp only [hM] at hh); exact hh) (fun h => ?_) (fun h => ?_) <;> try cbv
  · rw [if_pos h] at hq0
    refine callN hC (by have hh := c2; (try simp only [hM] at hh); exact hh) (fun m hm => ?_)
    cbv
    exact retN hr (hq0.trans hm.symm)
  · rw [if_neg (by rw [h]; decide)] at hq0
    exact retN hr hq0
end Go.Proofs.Ythaelohccopgjaa
