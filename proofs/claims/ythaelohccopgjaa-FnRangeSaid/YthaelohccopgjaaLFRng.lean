/- Functions of the program, each with what it returns, run by the evaluator; the conditions stand in the theorems. -/
import Derived.Test.YthaelohccopgjaaLTrU
namespace Go.Proofs.Ythaelohccopgjaa
open Go Go.Proofs.YthaelohccopgjaaW Go.Proofs
set_option linter.unusedVariables false
set_option linter.unusedSimpArgs false
set_option maxRecDepth 100000
set_option maxHeartbeats 8000000
theorem lawRange_ok (code : List UInt8) : CallOK Try.prog 5 [.c (.y (.sl 1 (bytesL code)))] (B true) := by
  have cD : code.length ≤ 1048576 → _ := fun h => drawR_q (xs := bytesL code) ⟨code, rfl, h⟩
  have lc : (bytesL code).length = code.length := by rw [bytesL, List.length_map]
  obtain ⟨xs, hx⟩ : ∃ xs, xs = bytesL code := ⟨_, rfl⟩
  rw [← hx] at cD lc ⊢
  clear hx
  obtain ⟨M, hM⟩ := mapEx
  try simp only [hM]
  refine go Try.func5 rfl rfl rfl rfl fun pAdd pSub pMul pQuo pRem pAnd pOr pXor pAndNot pShl pShr pNeg pCompl pConv pLt pLe pEq pSlt pSle pSeq pCat pCatOk pSlen pSsub pSat pIadd pIsub pBnot pBeq pImin pImax pLlen pLsub pLapp pLset pLcopy pLenOk pBytes pRep hF Ca hC r hr => ?_
  cbv
  have lx : pLlen xs = Int.ofNat code.length := (llenIs hF xs).trans (by rw [lc]; rfl)
  rw [lx]
  refine brkI (fun h => ?_) (fun h => ?_) <;> try cbv
  · exact hr.symm
  have h := ltF hF h
  refine callQ5 hC (cD (by ((try simp only [Int.ofNat_eq_natCast] at *); omega))) (fun ks vs zs low high hx => ?_)
  cbv
  obtain ⟨u, hu, rks, rvs, rzs⟩ := hx
  have cI := iTreeRange_ok u low high hu
  have cS := sTreeRange_ok u low high hu
  have cG := fun k => iTreeGet_ok u k hu
  have cH := iTreeHeight_ok u hu
  have cR := sTreeRight_ok u hu.up
  have cZ := iTreeSize_ok u hu
  rw [← rks, ← rvs, ← rzs] at cI cS cH cR cZ
  simp only [← rks, ← rvs, ← rzs] at cG
  have fI := fun k => @range_in u low high k
  have fS := @range_srt u low high
  have fL := @range_len u low high
  have fH := @right_high u
  obtain ⟨l, hl⟩ : ∃ l, l = rangeT u low high := ⟨_, rfl⟩
  rw [← hl] at cI cS fS fL
  simp only [← hl] at fI
  obtain ⟨hh, hhh⟩ : ∃ h, h = highT u := ⟨_, rfl⟩
  obtain ⟨sz, hsz⟩ : ∃ h, h = sizeT u := ⟨_, rfl⟩
  obtain ⟨rt, hrt⟩ : ∃ h, h = rightT u := ⟨_, rfl⟩
  rw [← hhh] at cH fH
  rw [← hsz] at cZ fH
  rw [← hrt] at cR fH
  obtain ⟨gv, hgv⟩ : ∃ f, f = outVal u := ⟨_, rfl⟩
  obtain ⟨gc, hgc⟩ : ∃ f, f = outCode u := ⟨_, rfl⟩
  simp only [← hgv, ← hgc] at cG fI
  clear hhh hsz hrt hgv hgc hl cD rks rvs rzs hu
  obtain ⟨ls, hls⟩ : ∃ r, r = l.map rowS := ⟨_, rfl⟩
  rw [← hls] at cI cS
  refine callI hC cI ?_
  cbv
  refine callI hC cS ?_
  cbv
  have ll : pLlen ls = Int.ofNat l.length := (llenIs hF ls).trans (by rw [hls, List.length_map]; rfl)
  obtain ⟨n, hn⟩ : ∃ n, n = l.length := ⟨_, rfl⟩
  rw [← hn] at ll
  rw [ll]
  refine brT (mkEq hF rfl) ?_
  try cbv
  have sD : ∀ a b, pSlt a b = ltS a b := by cases hF; exact fun _ _ => rfl
  refine loop_u (α := Nat) (fun i st => st.n 8 (Int.ofNat i)) (fun i => i ≤ n) (fun i => n - i) 0 rfl (Nat.zero_le _) (fun K' hK I i hi ih => ?_)
  cbv
  rw [ll]
  refine brkI (fun h => ?_) (fun h => ?_) <;> try cbv
  · have h := ltT hF h
    have hin : i < l.length := by ((try simp only [Int.ofNat_eq_natCast] at *); omega)
    have g1 : pLe 0 (Int.ofNat i) = true := zeroLe hF i
    have g2 : pLt (Int.ofNat i) (pLlen ls) = true := mkLt hF (by rw [ll]; ((try simp only [Int.ofNat_eq_natCast] at *); omega))
    rw [ll]
    have e1 : pAdd .i64 (Int.ofNat i) 1 = Int.ofNat (i + 1) := add1Is hF (by have := fL; omega)
    obtain ⟨k, hk⟩ : ∃ k, k = l[i] := ⟨_, rfl⟩
    have hgk : LGet ls (Int.ofNat i) (rowS k) := ⟨Int.natCast_nonneg i, by rw [hls, Int.ofNat_eq_natCast, Int.toNat_natCast, List.getElem?_map, List.getElem?_eq_getElem hin, hk]; rfl⟩
    have hmem : k ∈ l := by rw [hk]; exact List.getElem_mem hin
    obtain ⟨hinr, hgc⟩ := fI k hmem
    simp only [inR, Bool.and_eq_true, Bool.not_eq_true'] at hinr
    have g3 : pLt (Int.ofNat i) (Int.ofNat n) = true := mkLt hF (by ((try simp only [Int.ofNat_eq_natCast] at *); omega))
    have f1 : pSeq k k = true := mkSeq hF rfl
    have f2 : pSlt k low = false := by rw [sD]; exact hinr.1
    have f3' : prims.sle k high = true := by rw [sle_is, hinr.2]; rfl
    have f3 : pSle k high = true := by rw [hF] at f3'; exact f3'
    have f6 : pEq (gc k) 0 = true := mkEq hF hgc
    by_cases hi0 : 0 < i
    · have f4 : pLt 0 (Int.ofNat i) = true := mkLt hF (by ((try simp only [Int.ofNat_eq_natCast] at *); omega))
      have es : pSub .i64 (Int.ofNat i) 1 = Int.ofNat (i - 1) := sub1Is hF hi0 (by have := fL; omega)
      have hip : i - 1 < l.length := by omega
      obtain ⟨p, hp⟩ : ∃ k, k = l[i - 1] := ⟨_, rfl⟩
      have hgp : LGet ls (Int.ofNat (i - 1)) (rowS p) := ⟨Int.natCast_nonneg _, by rw [hls, Int.ofNat_eq_natCast, Int.toNat_natCast, List.getElem?_map, List.getElem?_eq_getElem hip, hp]; rfl⟩
      have f5 : pSlt p k = true := by
        rw [sD, hp, hk]
        exact List.pairwise_iff_getElem.1 fS _ _ hip hin (by omega)
      have g4 : pLe 0 (Int.ofNat (i - 1)) = true := zeroLe hF _
      have g5 : pLt (Int.ofNat (i - 1)) (Int.ofNat n) = true := mkLt hF (by ((try simp only [Int.ofNat_eq_natCast] at *); omega))
      have g6 : pLt (Int.ofNat (i - 1)) (pLlen ls) = true := by rw [ll]; exact g5
      repeat' (first
        | (refine brT (by assumption) ?_; try cbv)
        | (refine brF (by assumption) ?_; try cbv)
        | (refine Exists.intro (rowS k) ?_; refine And.intro hgk ?_; cbv)
        | (rw [es])
        | (refine Exists.intro (rowS p) ?_; refine And.intro hgp ?_; cbv)
        | (refine callI hC (cG k) ?_; cbv))
      all_goals
        conv => arg 1; cbv
        rw [e1]
        exact ih (i + 1) _ (by omega) (by omega) rfl
    · have f4 : pLt 0 (Int.ofNat i) = false := mkNlt hF (by ((try simp only [Int.ofNat_eq_natCast] at *); omega))
      repeat' (first
        | (refine brT (by assumption) ?_; try cbv)
        | (refine brF (by assumption) ?_; try cbv)
        | (refine Exists.intro (rowS k) ?_; refine And.intro hgk ?_; cbv)
        | (refine callI hC (cG k) ?_; cbv))
      all_goals
        conv => arg 1; cbv
        rw [e1]
        exact ih (i + 1) _ (by omega) (by omega) rfl
  · have h := ltF hF h
    refine hK _ _ ?_
    cbv
    refine callI hC (by have hh := cH; (try simp only [hM] at hh); exact hh) ?_
    cbv
    refine callB hC cR (fun h3 => ?_) (fun h3 => ?_) <;> try cbv
    · obtain ⟨hn, q1, q2, q3⟩ := fH h3
      subst q1
      have s1 : ∀ m : Nat, m < 13 → prims.shl .i64 1 (m : Int) = (2 : Int) ^ m := by decide
      have s2 : ∀ m : Nat, m < 13 → (2 : Int) ^ m ≤ 4096 := by decide
      have s3 : ∀ m : Nat, m < 13 → prims.conv .u64 (m : Int) = (m : Int) := by decide
      have t1 : pShl .i64 1 (hn : Int) = (2 : Int) ^ hn := by have := s1 hn (by omega); rw [hF] at this; exact this
      have t3 : pConv .u64 (hn : Int) = (hn : Int) := by have := s3 hn (by omega); rw [hF] at this; exact this
      have t2 := s2 hn (by omega)
      have t4 : 0 ≤ (2 : Int) ^ hn := Int.pow_nonneg (by decide)
      obtain ⟨w, hw⟩ : ∃ w, w = (2 : Int) ^ hn := ⟨_, rfl⟩
      rw [← hw] at t1 t2 t4 q3
      have t5 : pSub .i64 w 1 = w - 1 := subIs hF (by omega) (by omega)
      have t1' : pShl .i64 1 (Int.ofNat hn) = w := t1
      have t3' : pConv .u64 (Int.ofNat hn) = Int.ofNat hn := t3
      have u1 : (0 : Int) ≤ Int.ofNat hn := Int.natCast_nonneg hn
      have u2 : Int.ofNat hn ≤ (12 : Int) := Int.ofNat_le.2 q2
      have v1 : pLe 0 (Int.ofNat hn) = true := mkLe hF u1
      have v2 : pLe (Int.ofNat hn) 12 = true := mkLe hF u2
      have v3 : pLt (Int.ofNat hn) 0 = false := mkNlt hF u1
      have v4 : pLe (w - 1) sz = true := mkLe hF q3
      refine brT v1 ?_
      try cbv
      refine brT v2 ?_
      try cbv
      refine callI hC (by have hh := cZ; (try simp only [hM] at hh); exact hh) ?_
      cbv
      rw [t3']
      refine brF v3 ?_
      try cbv
      rw [t1', t5]
      refine brT v4 ?_
      try cbv
      exact hr.symm
    · exact hr.symm
end Go.Proofs.Ythaelohccopgjaa
