/- Functions of the program, each with what it returns, run by the evaluator; the conditions stand in the theorems. -/
import Derived.Test.YthaelohccopgjaaLTr4
namespace Go.Proofs.Ythaelohccopgjaa
open Go Go.Proofs.YthaelohccopgjaaW Go.Proofs
set_option linter.unusedVariables false
set_option linter.unusedSimpArgs false
set_option maxRecDepth 100000
set_option maxHeartbeats 8000000
theorem Tr.Bd.up {t : Tr} (h : Tr.Bd 1048576 t) : Tr.Bd maxLen t := by
  have hm : 1048576 ≤ maxLen := by rw [maxLen_is]; omega
  induction h with
  | mk t h1 h2 h3 h4 h5 h6 ih => exact ⟨t, Nat.le_trans h1 hm, fun u hu => Nat.le_trans (h2 u hu) hm, Nat.le_trans h3 hm, fun u hu => Nat.le_trans (h4 u hu) hm, Nat.le_trans h5 hm, ih⟩
theorem height_ok (t : Tr) (hb : Tr.Bd 1048576 t) : CallOK Try.prog 39 [.agg [.y (.sl 1 (t.keys.map rowS)), .y (.sl 1 (t.vals.map rowS)), .y (.sl 3 (t.kids.map Tr.row))]] (N (heightT t)) := by
  have c1 := levN_ok 12 t (by omega) hb.up none none
  simp only [pA] at c1
  obtain ⟨v, hv⟩ : ∃ v, v = lev 12 t none none := ⟨_, rfl⟩
  rw [← hv, show Int.ofNat 12 = 12 from rfl] at c1
  have hq' : heightT t = if t.keys.length = 0 then (if t.vals.length + t.kids.length = 0 then 0 else -1) else v := by rw [heightT, ← hv]
  obtain ⟨q, hq⟩ : ∃ q, q = heightT t := ⟨_, rfl⟩
  rw [← hq] at hq' ⊢
  obtain ⟨_, b1, _, b2, _, b3, _⟩ := hb
  obtain ⟨n, hn⟩ : ∃ n, n = t.keys.length := ⟨_, rfl⟩
  obtain ⟨nv, hnv⟩ : ∃ n, n = t.vals.length := ⟨_, rfl⟩
  obtain ⟨nk, hnk⟩ : ∃ n, n = t.kids.length := ⟨_, rfl⟩
  rw [← hn, ← hnv, ← hnk] at hq'
  rw [← hn] at b1
  rw [← hnv] at b2
  rw [← hnk] at b3
  obtain ⟨M, hM⟩ := mapEx
  try simp only [hM]
  refine go Try.func39 rfl rfl rfl rfl fun pAdd pSub pMul pQuo pRem pAnd pOr pXor pAndNot pShl pShr pNeg pCompl pConv pLt pLe pEq pSlt pSle pSeq pCat pCatOk pSlen pSsub pSat pIadd pIsub pBnot pBeq pImin pImax pLlen pLsub pLapp pLset pLcopy pLenOk pBytes pRep hF Ca hC r hr => ?_
  cbv
  have lk : pLlen (M rowS t.keys) = Int.ofNat n := (llenIs hF _).trans (by rw [← hM, List.length_map, ← hn]; rfl)
  have lv : pLlen (M rowS t.vals) = Int.ofNat nv := (llenIs hF _).trans (by rw [← hM, List.length_map, ← hnv]; rfl)
  have lkk : pLlen (M Tr.row t.kids) = Int.ofNat nk := (llenIs hF _).trans (by rw [← hM, List.length_map, ← hnk]; rfl)
  rw [lk]
  refine brkI (fun h => ?_) (fun h => ?_) <;> try cbv
  · have h := eqT hF h
    rw [if_pos (by ((try simp only [Int.ofNat_eq_natCast] at *); omega))] at hq'
    rw [lv, lkk]
    obtain ⟨s, hs⟩ : ∃ s, s = pAdd .i64 (Int.ofNat nv) (Int.ofNat nk) := ⟨_, rfl⟩
    rw [← hs]
    have hss : s = Int.ofNat (nv + nk) := hs.trans (addNIs hF (by omega))
    refine brkI (fun h1 => ?_) (fun h1 => ?_) <;> try cbv
    · have h1 := ltT hF h1
      refine retN hr (hq'.trans (if_neg ?_))
      ((try simp only [Int.ofNat_eq_natCast] at *); omega)
    · have h1 := ltF hF h1
      refine retN hr (hq'.trans (if_pos ?_))
      ((try simp only [Int.ofNat_eq_natCast] at *); omega)
  · have h := eqF hF h
    rw [if_neg (by ((try simp only [Int.ofNat_eq_natCast] at *); omega))] at hq'
    refine callN hC (by have hh := c1; (try simp only [hM] at hh); exact hh) (fun m hm => ?_)
    cbv
    exact retN hr (hq'.trans hm.symm)
theorem iTreeRight_ok (t : Tr) (hb : Tr.Bd 1048576 t) : CallOK Try.prog 10 [.agg [.y (.sl 1 (t.keys.map rowS)), .y (.sl 1 (t.vals.map rowS)), .y (.sl 3 (t.kids.map Tr.row))]] (B (rightT t)) := by
  have c1 := height_ok t hb
  rw [right_is]
  obtain ⟨v, hv⟩ : ∃ v, v = heightT t := ⟨_, rfl⟩
  rw [← hv] at c1 ⊢
  obtain ⟨q, hq⟩ : ∃ q, q = decide (0 ≤ v) := ⟨_, rfl⟩
  rw [← hq]
  obtain ⟨M, hM⟩ := mapEx
  try simp only [hM]
  refine go Try.func10 rfl rfl rfl rfl fun pAdd pSub pMul pQuo pRem pAnd pOr pXor pAndNot pShl pShr pNeg pCompl pConv pLt pLe pEq pSlt pSle pSeq pCat pCatOk pSlen pSsub pSat pIadd pIsub pBnot pBeq pImin pImax pLlen pLsub pLapp pLset pLcopy pLenOk pBytes pRep hF Ca hC r hr => ?_
  cbv
  refine callN hC (by have hh := c1; (try simp only [hM] at hh); exact hh) (fun m hm => ?_)
  cbv
  subst hm
  refine brkI (fun h => ?_) (fun h => ?_) <;> try cbv
  · exact retB hr (hq.trans (decide_eq_true (leT hF h)))
  · exact retB hr (hq.trans (decide_eq_false (by have := leF hF h; omega)))
def highT (t : Tr) : Int := if 0 ≤ heightT t then heightT t else 0
theorem iTreeHeight_ok (t : Tr) (hb : Tr.Bd 1048576 t) : CallOK Try.prog 16 [.agg [.y (.sl 1 (t.keys.map rowS)), .y (.sl 1 (t.vals.map rowS)), .y (.sl 3 (t.kids.map Tr.row))]] (N (highT t)) := by
  have c1 := height_ok t hb
  have hq0 : highT t = if 0 ≤ heightT t then heightT t else 0 := rfl
  obtain ⟨v, hv⟩ : ∃ v, v = heightT t := ⟨_, rfl⟩
  rw [← hv] at c1 hq0
  obtain ⟨q, hq⟩ : ∃ q, q = highT t := ⟨_, rfl⟩
  rw [← hq] at hq0 ⊢
  obtain ⟨M, hM⟩ := mapEx
  try simp only [hM]
  refine go Try.func16 rfl rfl rfl rfl fun pAdd pSub pMul pQuo pRem pAnd pOr pXor pAndNot pShl pShr pNeg pCompl pConv pLt pLe pEq pSlt pSle pSeq pCat pCatOk pSlen pSsub pSat pIadd pIsub pBnot pBeq pImin pImax pLlen pLsub pLapp pLset pLcopy pLenOk pBytes pRep hF Ca hC r hr => ?_
  cbv
  refine callN hC (by have hh := c1; (try simp only [hM] at hh); exact hh) (fun m hm => ?_)
  cbv
  subst hm
  refine retN hr (hq0.trans ?_)
  have e : pImax m 0 = prims.imax m 0 := by rw [hF]
  rw [e]
  show _ = if 0 > m then 0 else m
  split <;> split <;> omega
theorem sTreeHeight_ok (t : Tr) (hb : Tr.Bd 1048576 t) : CallOK Try.prog 14 [.agg [.y (.sl 1 (t.keys.map rowS)), .y (.sl 1 (t.vals.map rowS)), .y (.sl 3 (t.kids.map Tr.row))]] (N (highT t)) := by
  have c1 := sTreeRight_ok t hb.up
  have c2 := deep_ok t
  have hq0 : highT t = if rightT t = true then (if t.keys.length = 0 then 0 else Int.ofNat (deepT 13 t)) else 0 := by
    rw [right_is, highT]
    by_cases h : 0 ≤ heightT t
    · rw [if_pos h, if_pos (decide_eq_true h)]
      by_cases hn : t.keys.length = 0
      · rw [if_pos hn]
        rw [heightT, if_pos hn] at h ⊢
        split at h
        · rename_i hz; rw [if_pos hz]
        · omega
      · rw [if_neg hn, height_deep h hn]; rfl
    · rw [if_neg h, if_neg (by simpa using h)]
  obtain ⟨b, hb'⟩ : ∃ b, b = rightT t := ⟨_, rfl⟩
  rw [← hb'] at c1 hq0
  obtain ⟨d, hd⟩ : ∃ b, b = deepT 13 t := ⟨_, rfl⟩
  rw [← hd] at c2 hq0
  obtain ⟨q, hq⟩ : ∃ q, q = highT t := ⟨_, rfl⟩
  rw [← hq] at hq0 ⊢
  obtain ⟨n, hn⟩ : ∃ n, n = t.keys.length := ⟨_, rfl⟩
  rw [← hn] at hq0
  obtain ⟨M, hM⟩ := mapEx
  try simp only [hM]
  refine go Try.func14 rfl rfl rfl rfl fun pAdd pSub pMul pQuo pRem pAnd pOr pXor pAndNot pShl pShr pNeg pCompl pConv pLt pLe pEq pSlt pSle pSeq pCat pCatOk pSlen pSsub pSat pIadd pIsub pBnot pBeq pImin pImax pLlen pLsub pLapp pLset pLcopy pLenOk pBytes pRep hF Ca hC r hr => ?_
  cbv
  have lk : pLlen (M rowS t.keys) = Int.ofNat n := (llenIs hF _).trans (by rw [← hM, List.length_map, ← hn]; rfl)
  refine callB hC (by have hh := c1; (try simp only [hM] at hh); exact hh) (fun h => ?_) (fun h => ?_) <;> try cbv
  · rw [if_pos h] at hq0
    rw [lk]
    refine brkI (fun h1 => ?_) (fun h1 => ?_) <;> try cbv
    · have h1 := eqT hF h1
      exact retN hr (hq0.trans (if_pos (by ((try simp only [Int.ofNat_eq_natCast] at *); omega))))
    · have h1 := eqF hF h1
      rw [if_neg (by ((try simp only [Int.ofNat_eq_natCast] at *); omega))] at hq0
      refine callN hC (by have hh := c2; (try simp only [hM] at hh); exact hh) (fun m hm => ?_)
      cbv
      exact retN hr (hq0.trans hm.symm)
  · rw [if_neg (by rw [h]; decide)] at hq0
    exact retN hr hq0
end Go.Proofs.Ythaelohccopgjaa
