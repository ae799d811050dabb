/- Functions of the program, each with what it returns, run by the evaluator; the conditions stand in the theorems. -/
import Derived.Test.YthaelohccopgjaaLTrJ
namespace Go.Proofs.Ythaelohccopgjaa
open Go Go.Proofs.YthaelohccopgjaaW Go.Proofs
set_option linter.unusedVariables false
set_option linter.unusedSimpArgs false
set_option maxRecDepth 100000
set_option maxHeartbeats 8000000
theorem sDel_A (t : Tr) (key : ByteArray) (h : 20000 < key.size) : CallOK Try.prog 32 [.agg [.y (.sl 1 (t.keys.map rowS)), .y (.sl 1 (t.vals.map rowS)), .y (.sl 3 (t.kids.map Tr.row))], aS key] ⟨.agg [.own 1 ((⟨[], [], []⟩ : Tr).keys.map rowS), .own 1 ((⟨[], [], []⟩ : Tr).vals.map rowS), .own 3 ((⟨[], [], []⟩ : Tr).kids.map Tr.row)], []⟩ := by
  obtain ⟨M, hM⟩ := mapEx
  try simp only [hM]
  refine go Try.func32 rfl rfl rfl rfl fun pAdd pSub pMul pQuo pRem pAnd pOr pXor pAndNot pShl pShr pNeg pCompl pConv pLt pLe pEq pSlt pSle pSeq pCat pCatOk pSlen pSsub pSat pIadd pIsub pBnot pBeq pImin pImax pLlen pLsub pLapp pLset pLcopy pLenOk pBytes pRep hF Ca hC r hr => ?_
  cbv
  have el : pSlen key = Int.ofNat key.size := slenIs hF key
  rw [el]
  refine brT (mkLt hF (by ((try simp only [Int.ofNat_eq_natCast] at *); omega))) ?_
  try cbv
  rw [hr]; simp only [← hM, List.map_nil]
theorem sDel_B (t : Tr) (key : ByteArray) (hb : Tr.Bd 1048576 t) (h1 : ¬ 20000 < key.size) (hr0 : rightT t = false) : CallOK Try.prog 32 [.agg [.y (.sl 1 (t.keys.map rowS)), .y (.sl 1 (t.vals.map rowS)), .y (.sl 3 (t.kids.map Tr.row))], aS key] ⟨.agg [.own 1 (t.keys.map rowS), .own 1 (t.vals.map rowS), .own 3 (t.kids.map Tr.row)], []⟩ := by
  have c0 := sTreeRight_ok t hb.up
  rw [hr0] at c0
  have c1 := sCopy_own t hb
  obtain ⟨rr, hrr⟩ : ∃ r : Res, r = ⟨.agg [.own 1 (t.keys.map rowS), .own 1 (t.vals.map rowS), .own 3 (t.kids.map Tr.row)], []⟩ := ⟨_, rfl⟩
  rw [← hrr]
  obtain ⟨M, hM⟩ := mapEx
  try simp only [hM]
  refine go Try.func32 rfl rfl rfl rfl fun pAdd pSub pMul pQuo pRem pAnd pOr pXor pAndNot pShl pShr pNeg pCompl pConv pLt pLe pEq pSlt pSle pSeq pCat pCatOk pSlen pSsub pSat pIadd pIsub pBnot pBeq pImin pImax pLlen pLsub pLapp pLset pLcopy pLenOk pBytes pRep hF Ca hC r hr => ?_
  cbv
  have el : pSlen key = Int.ofNat key.size := slenIs hF key
  rw [el]
  refine brF (mkNlt hF (by ((try simp only [Int.ofNat_eq_natCast] at *); omega))) ?_
  try cbv
  refine callI hC (by have hh := c0; (try simp only [hM] at hh); exact hh) ?_
  cbv
  refine callI hC (by have hh := c1; (try simp only [hM, List.map_cons, List.map_nil] at hh); exact hh) ?_
  cbv
  rw [hr, hrr]
  simp only [hM]
theorem sDel_C (t : Tr) (key : ByteArray) (hb : Tr.Bd 1048576 t) (h1 : ¬ 20000 < key.size) (hr0 : rightT t = true) (h3 : (getT (deepT 13 t) t key).isSome = false) : CallOK Try.prog 32 [.agg [.y (.sl 1 (t.keys.map rowS)), .y (.sl 1 (t.vals.map rowS)), .y (.sl 3 (t.kids.map Tr.row))], aS key] ⟨.agg [.own 1 (t.keys.map rowS), .own 1 (t.vals.map rowS), .own 3 (t.kids.map Tr.row)], []⟩ := by
  have c0 := sTreeRight_ok t hb.up
  rw [hr0] at c0
  have c2 := sGet_ok (deepT 13 t) t key (right_okAt hr0)
  obtain ⟨d, hd, d1, d2, hN, hS, hZ⟩ := right_nd hr0
  obtain ⟨dd, hdd⟩ : ∃ x, x = deepT 13 t := ⟨_, rfl⟩
  rw [← hdd] at hd
  subst hd
  rw [← hdd] at c2 h3
  rw [h3] at c2
  obtain ⟨g, hg⟩ : ∃ g, g = outS (getT d t key) := ⟨_, rfl⟩
  rw [← hg] at c2
  have c4 := sCopy_own _ hb
  obtain ⟨rr, hrr⟩ : ∃ r : Res, r = ⟨.agg [.own 1 (t.keys.map rowS), .own 1 (t.vals.map rowS), .own 3 (t.kids.map Tr.row)], []⟩ := ⟨_, rfl⟩
  rw [← hrr]
  obtain ⟨M, hM⟩ := mapEx
  try simp only [hM]
  refine go Try.func32 rfl rfl rfl rfl fun pAdd pSub pMul pQuo pRem pAnd pOr pXor pAndNot pShl pShr pNeg pCompl pConv pLt pLe pEq pSlt pSle pSeq pCat pCatOk pSlen pSsub pSat pIadd pIsub pBnot pBeq pImin pImax pLlen pLsub pLapp pLset pLcopy pLenOk pBytes pRep hF Ca hC r hr => ?_
  cbv
  have el : pSlen key = Int.ofNat key.size := slenIs hF key
  rw [el]
  refine brF (mkNlt hF (by ((try simp only [Int.ofNat_eq_natCast] at *); omega))) ?_
  try cbv
  refine callI hC (by have hh := c0; (try simp only [hM] at hh); exact hh) ?_
  cbv
  refine callI hC (by have hh := c2; (try simp only [hM, List.map_cons, List.map_nil] at hh); exact hh) ?_
  cbv
  refine callI hC (by have hh := c4; (try simp only [hM, List.map_cons, List.map_nil] at hh); exact hh) ?_
  cbv
  rw [hr, hrr]
  simp only [hM]
theorem sDel_D (t : Tr) (key : ByteArray) (hb : Tr.Bd 1048576 t) (h1 : ¬ 20000 < key.size) (hr0 : rightT t = true) (h3 : (getT (deepT 13 t) t key).isSome = true) : CallOK Try.prog 32 [.agg [.y (.sl 1 (t.keys.map rowS)), .y (.sl 1 (t.vals.map rowS)), .y (.sl 3 (t.kids.map Tr.row))], aS key] ⟨.agg [.own 1 ((rootT (delN (deepT 13 t) t key)).keys.map rowS), .own 1 ((rootT (delN (deepT 13 t) t key)).vals.map rowS), .own 3 ((rootT (delN (deepT 13 t) t key)).kids.map Tr.row)], []⟩ := by
  have c0 := sTreeRight_ok t hb.up
  rw [hr0] at c0
  have c2 := sGet_ok (deepT 13 t) t key (right_okAt hr0)
  obtain ⟨d, hd, d1, d2, hN, hS, hZ⟩ := right_nd hr0
  obtain ⟨dd, hdd⟩ : ∃ x, x = deepT 13 t := ⟨_, rfl⟩
  rw [← hdd] at hd
  subst hd
  rw [← hdd] at c2 h3
  rw [h3] at c2
  obtain ⟨g, hg⟩ : ∃ g, g = outS (getT d t key) := ⟨_, rfl⟩
  rw [← hg] at c2
  rw [← hdd]
  have hk := (has_iff hN hS).1 h3
  have hl := key_len hr0 hN hk
  have c5 := sDel_ok d 0 t key hN hl hS hk
  obtain ⟨n1, n2⟩ := del_flat hN hl hS hk
  have hbu := n1.bd (by rw [n2]; exact del_szp hZ)
  obtain ⟨u, hu⟩ : ∃ u, u = delN d t key := ⟨_, rfl⟩
  rw [← hu] at c5 hbu n1 ⊢
  have c4 := sCopy_own _ (rootT_bd hbu)
  rw [Tr.row_eq] at c5
  obtain ⟨rr, hrr⟩ : ∃ r : Res, r = ⟨.agg [.own 1 ((rootT u).keys.map rowS), .own 1 ((rootT u).vals.map rowS), .own 3 ((rootT u).kids.map Tr.row)], []⟩ := ⟨_, rfl⟩
  rw [← hrr]
  obtain ⟨M, hM⟩ := mapEx
  try simp only [hM]
  refine go Try.func32 rfl rfl rfl rfl fun pAdd pSub pMul pQuo pRem pAnd pOr pXor pAndNot pShl pShr pNeg pCompl pConv pLt pLe pEq pSlt pSle pSeq pCat pCatOk pSlen pSsub pSat pIadd pIsub pBnot pBeq pImin pImax pLlen pLsub pLapp pLset pLcopy pLenOk pBytes pRep hF Ca hC r hr => ?_
  cbv
  have el : pSlen key = Int.ofNat key.size := slenIs hF key
  rw [el]
  refine brF (mkNlt hF (by ((try simp only [Int.ofNat_eq_natCast] at *); omega))) ?_
  try cbv
  refine callI hC (by have hh := c0; (try simp only [hM] at hh); exact hh) ?_
  cbv
  refine callI hC (by have hh := c2; (try simp only [hM, List.map_cons, List.map_nil] at hh); exact hh) ?_
  cbv
  refine callI hC (by have hh := c5; (try simp only [hM, List.map_cons, List.map_nil] at hh); exact hh) ?_
  cbv
  have lk : pLlen (M rowS u.keys) = Int.ofNat u.keys.length := (llenIs hF _).trans (by rw [← hM, List.length_map]; rfl)
  have lkk : pLlen (M Tr.row u.kids) = Int.ofNat u.kids.length := (llenIs hF _).trans (by rw [← hM, List.length_map]; rfl)
  rw [lk]
  refine brkI (fun h => ?_) (fun h => ?_) <;> try cbv
  · have h := eqT hF h
    have h : u.keys.length = 0 := by ((try simp only [Int.ofNat_eq_natCast] at *); omega)
    rw [lkk]
    refine brkI (fun h' => ?_) (fun h' => ?_) <;> try cbv
    · have h' := ltT hF h'
      have hkl : 0 < u.kids.length := by ((try simp only [Int.ofNat_eq_natCast] at *); omega)
      refine lgetM (l := u.kids) (fun u => [.sl 1 (M rowS u.keys), .sl 1 (M rowS u.vals), .sl 3 (M Tr.row u.kids)]) (fun u => by simp only [Tr.row_eq, hM]) (hM _ _).symm (i := 0) hkl fun c hc => ?_
      cbv
      have hr2 : rootT u = c := by rw [rootT, if_pos ⟨h, by omega⟩]; exact (hc.trans (getD_at hkl).symm).symm
      rw [hr2] at c4 hrr
      refine callI hC (by have hh := c4; (try simp only [hM, List.map_cons, List.map_nil] at hh); exact hh) ?_
      cbv
      rw [hr, hrr]
      simp only [hM]
    · have h' := ltF hF h'
      have hr2 : rootT u = u := by rw [rootT, if_neg (fun hh => hh.2 (by ((try simp only [Int.ofNat_eq_natCast] at *); omega)))]
      rw [hr2] at c4 hrr
      refine callI hC (by have hh := c4; (try simp only [hM, List.map_cons, List.map_nil] at hh); exact hh) ?_
      cbv
      rw [hr, hrr]
      simp only [hM]
  · have h := eqF hF h
    have hr2 : rootT u = u := by rw [rootT, if_neg (fun hh => h (by rw [hh.1]; rfl))]
    rw [hr2] at c4 hrr
    refine callI hC (by have hh := c4; (try simp only [hM, List.map_cons, List.map_nil] at hh); exact hh) ?_
    cbv
    rw [hr, hrr]
    simp only [hM]
theorem sTreeDel_ok (t : Tr) (key : ByteArray) (hb : Tr.Bd 1048576 t) : CallOK Try.prog 32 [.agg [.y (.sl 1 (t.keys.map rowS)), .y (.sl 1 (t.vals.map rowS)), .y (.sl 3 (t.kids.map Tr.row))], aS key] ⟨.agg [.own 1 ((delT t key).keys.map rowS), .own 1 ((delT t key).vals.map rowS), .own 3 ((delT t key).kids.map Tr.row)], []⟩ := by
  by_cases h1 : 20000 < key.size
  · rw [delT, if_pos h1]; exact sDel_A t key h1
  rw [delT, if_neg h1]
  by_cases hr0 : rightT t = false
  · rw [if_pos hr0]; exact sDel_B t key hb h1 hr0
  rw [if_neg hr0]
  have hr1 := notF hr0
  by_cases h3 : (getT (deepT 13 t) t key).isSome = false
  · rw [if_pos h3]; exact sDel_C t key hb h1 hr1 h3
  · rw [if_neg h3]; exact sDel_D t key hb h1 hr1 (notF h3)
end Go.Proofs.Ythaelohccopgjaa
