/- Functions of the program, each with what it returns, run by the evaluator; the conditions stand in the theorems. -/
import Derived.Test.YthaelohccopgjaaLTrW
namespace Go.Proofs.Ythaelohccopgjaa
open Go Go.Proofs.YthaelohccopgjaaW Go.Proofs
set_option linter.unusedVariables false
set_option linter.unusedSimpArgs false
set_option maxRecDepth 100000
set_option maxHeartbeats 8000000
theorem Tr.Bd.kid {M : Nat} {t : Tr} (h : Tr.Bd M t) {c : Tr} (hc : c ∈ t.kids) : Tr.Bd M c := by
  obtain ⟨_, _, _, _, _, _, h6⟩ := h
  exact h6 c hc
theorem sSplit_ok (t : Tr) (k : Nat) (hk : k < t.kids.length) (hn : k ≤ t.keys.length) (hv : t.vals.length = t.keys.length) (hl : t.keys.length ≤ 3) (hl2 : t.kids.length ≤ 4)
    (c3 : (t.kid k).keys.length = 3) (v3 : (t.kid k).vals.length = 3) (k4 : (t.kid k).kids = [] ∨ (t.kid k).kids.length = 4) :
    CallOK Try.prog 58 [.agg [.y (.sl 1 (t.keys.map rowS)), .y (.sl 1 (t.vals.map rowS)), .y (.sl 3 (t.kids.map Tr.row))], aN (Int.ofNat k)] ⟨.agg ((splitT t k).row.map AC.y), []⟩ := by
  refine CallQ.plain (Q := fun r => r.lo = ⟨.agg ((splitT t k).row.map AC.y), []⟩) ?_ fun _ h => h
  have c1 := sPart_ok (t.kid k) 0 1 (by omega) (by omega) (by omega) (by omega) (k4.imp id (by omega))
  have c2 := sPart_ok (t.kid k) 2 3 (by omega) (by omega) (by omega) (by omega) (k4.imp id (by omega))
  have c4 := sTexts_ok t.keys k ((t.kid k).key 1) hn (by omega)
  have c5 := sTexts_ok t.vals k ((t.kid k).val 1) (by omega) (by omega)
  obtain ⟨rs, hrs⟩ : ∃ rs, rs = (splitT t k).row.map AC.y := ⟨_, rfl⟩
  rw [← hrs]
  rw [Tr.row_eq] at hrs
  simp only [splitT, List.map_append, List.map_cons, List.map_take, List.map_drop] at hrs
  obtain ⟨p1, hp1⟩ : ∃ p, p = partT (t.kid k) 0 1 := ⟨_, rfl⟩
  obtain ⟨p2, hp2⟩ : ∃ p, p = partT (t.kid k) 2 3 := ⟨_, rfl⟩
  obtain ⟨ks, hks⟩ : ∃ p, p = (insL t.keys k ((t.kid k).key 1)).map rowS := ⟨_, rfl⟩
  obtain ⟨vs, hvs⟩ : ∃ p, p = (insL t.vals k ((t.kid k).val 1)).map rowS := ⟨_, rfl⟩
  rw [← hks] at c4
  rw [← hvs] at c5
  rw [← hp1] at c1
  rw [← hp2] at c2
  rw [← hks, ← hvs, ← hp1, ← hp2] at hrs
  rw [Tr.row_eq] at c1 c2
  obtain ⟨kid, hkid⟩ : ∃ c, c = t.kid k := ⟨_, rfl⟩
  rw [← hkid] at c1 c2 c4 c5 c3 v3 k4
  have hkid' : kid = t.kids[k] := by rw [hkid, Tr.kid, getD_at hk]
  have s1 : kid.key 1 = kid.keys[1]'(by omega) := getD_at (by omega)
  have s2 : kid.val 1 = kid.vals[1]'(by omega) := getD_at (by omega)
  obtain ⟨ku, hku⟩ : ∃ u, u = kid.key 1 := ⟨_, rfl⟩
  obtain ⟨vu, hvu⟩ : ∃ u, u = kid.val 1 := ⟨_, rfl⟩
  rw [← hku] at c4 s1
  rw [← hvu] at c5 s2
  have p1r : p1.row = _ := Tr.row_eq p1
  have p2r : p2.row = _ := Tr.row_eq p2
  rw [p1r, p2r] at hrs
  have hM0 : True := trivial
  obtain ⟨M, hM⟩ := mapEx
  try simp only [hM]
  refine goQ Try.func58 rfl rfl rfl rfl fun pAdd pSub pMul pQuo pRem pAnd pOr pXor pAndNot pShl pShr pNeg pCompl pConv pLt pLe pEq pSlt pSle pSeq pCat pCatOk pSlen pSsub pSat pIadd pIsub pBnot pBeq pImin pImax pLlen pLsub pLapp pLset pLcopy pLenOk pBytes pRep hF Ca hC Q1 hQ => ?_
  cbv
  refine lgetM (l := t.kids) (fun u => [.sl 1 (M rowS u.keys), .sl 1 (M rowS u.vals), .sl 3 (M Tr.row u.kids)]) (fun u => by simp only [Tr.row_eq, hM]) (hM _ _).symm hk fun c hc => ?_
  cbv
  have hck : c = kid := hc.trans hkid'.symm
  subst hck
  have g1 : (M rowS c.keys)[1]? = some (rowS ku) := by rw [← hM, List.getElem?_map, List.getElem?_eq_getElem (by omega), ← s1]; rfl
  have g2 : (M rowS c.vals)[1]? = some (rowS vu) := by rw [← hM, List.getElem?_map, List.getElem?_eq_getElem (by omega), ← s2]; rfl
  refine ⟨rowS ku, ⟨by decide, g1⟩, ?_⟩
  cbv
  refine callI hC (by have hh := c4; (try simp only [hM] at hh); exact hh) ?_
  cbv
  refine ⟨rowS vu, ⟨by decide, g2⟩, ?_⟩
  cbv
  refine callI hC (by have hh := c5; (try simp only [hM] at hh); exact hh) ?_
  cbv
  have zD : ∀ a b, pLe a b = decide (a ≤ b) := leD hF
  have gD : ∀ a b, pLt a b = decide (a < b) := ltD hF
  have nD : ∀ xs : List (List Y), pLlen xs = Int.ofNat xs.length := fun xs => llenIs hF xs
  have uD : ∀ xs a b, pLsub xs a b = (xs.drop a.toNat).take b.toNat := lsubDD hF
  have iD : ∀ a b, pIsub a b = a - b := isubDD hF
  have aD : ∀ a b, pIadd a b = a + b := iaddDD hF
  have kD : ∀ a, pLenOk a = decide (a ≤ 4294967296) := lenOkDD hF
  have pD : ∀ a b, pLapp a b = a ++ b := lappDD hF
  have tD : ∀ l i x, pLset l i x = l.set i.toNat x := lsetDD hF
  obtain ⟨zs, hzs⟩ : ∃ zs, zs = M Tr.row t.kids := ⟨_, rfl⟩
  have hzl : zs.length = t.kids.length := by rw [hzs, ← hM, List.length_map]
  obtain ⟨za, hza⟩ : ∃ zs', zs' = zs.take k := ⟨_, rfl⟩
  obtain ⟨zb, hzb⟩ : ∃ zs', zs' = zs.drop (k + 1) := ⟨_, rfl⟩
  have la : za.length = k := by rw [hza]; simp; omega
  have lb : zb.length ≤ 1048576 := by rw [hzb]; simp; omega
  have e0 : pLsub zs 0 (pIsub (Int.ofNat k) 0) = za := by rw [uD, iD, hza]; simp
  have q1 : pLe 0 (Int.ofNat k) = true := zeroLe hF k
  have q2 : pLe (Int.ofNat k) (pLlen zs) = true := mkLe hF (by rw [nD]; ((try simp only [Int.ofNat_eq_natCast] at *); omega))
  have q3 : pLenOk (pIadd (pLlen []) (pLlen za)) = true := lenOkIs hF (by rw [aD, nD, nD, la]; simp; omega)
  rw [← hzs, e0]
  refine brT q1 (brT q2 (brT q3 ?_))
  refine callI hC (by have hh := c1; (try simp only [hM] at hh); exact hh) ?_
  cbv
  refine callI hC (by have hh := c2; (try simp only [hM] at hh); exact hh) ?_
  cbv
  have ea : pAdd .i64 (Int.ofNat k) 1 = Int.ofNat (k + 1) := add1Is hF (by omega)
  have e1 : pLsub zs (Int.ofNat (k + 1)) (pIsub (pLlen zs) (Int.ofNat (k + 1))) = zb := by
    rw [uD, iD, nD, hzb, List.take_of_length_le (by simp; omega)]; simp
  rw [ea, e1]
  obtain ⟨w2, hw2⟩ : ∃ w, w = [[Y.sl 1 (M rowS p1.keys), Y.sl 1 (M rowS p1.vals), Y.sl 3 (M Tr.row p1.kids)], [Y.sl 1 (M rowS p2.keys), Y.sl 1 (M rowS p2.vals), Y.sl 3 (M Tr.row p2.kids)]] := ⟨_, rfl⟩
  have lw : w2.length = 2 := by rw [hw2]; rfl
  rw [← hw2]
  have q4 : pLenOk (pIadd (pLlen (pLapp [] za)) (pLlen w2)) = true := lenOkIs hF (by rw [aD, nD, nD, pD, lw]; simp [la]; omega)
  have q5 : pLe 0 (Int.ofNat (k + 1)) = true := zeroLe hF (k + 1)
  have q6 : pLe (Int.ofNat (k + 1)) (pLlen zs) = true := mkLe hF (by rw [nD]; ((try simp only [Int.ofNat_eq_natCast] at *); omega))
  have q7 : pLenOk (pIadd (pLlen (pLapp (pLapp [] za) w2)) (pLlen zb)) = true := lenOkIs hF (by rw [aD, nD, nD, pD, pD]; simp [la, lw]; omega)
  refine brT q4 (brT q5 (brT q6 (brT q7 ?_)))
  refine hQ _ ?_
  rw [hrs, pD, pD, pD, hw2, hza, hzb, hzs]
  simp only [← hM]
  simp [resOf, Res.lo, RV.lo, AC.lo, List.map_take, List.map_drop]
theorem Nd.lens {lo d : Nat} {t : Tr} (h : Nd lo d t) : t.keys.length ≤ 3 ∧ t.vals.length = t.keys.length ∧ (t.kids = [] ∨ t.kids.length = t.keys.length + 1) := by
  cases d with
  | zero => exact h.elim
  | succ d => exact ⟨h.2.1, h.2.2.1, h.2.2.2.elim (fun h => .inl h.1) fun h => .inr h.1⟩
theorem sPut_leaf (t : Tr) (key val : ByteArray) (h1 : t.keys.length ≤ 3) (h2 : t.vals.length = t.keys.length) (h3 : t.kids = []) :
    CallOK Try.prog 59 [.agg [.y (.sl 1 (t.keys.map rowS)), .y (.sl 1 (t.vals.map rowS)), .y (.sl 3 (t.kids.map Tr.row))], aS key, aS val] ⟨.agg ((⟨insL t.keys (t.plc key) key, insL t.vals (t.plc key) val, []⟩ : Tr).row.map AC.y), []⟩ := by
  refine CallQ.plain (Q := fun r => r.lo = ⟨.agg ((⟨insL t.keys (t.plc key) key, insL t.vals (t.plc key) val, []⟩ : Tr).row.map AC.y), []⟩) ?_ fun _ h => h
  have hp := t.plc_le key
  have c0 := sPlace_ok t key (by rw [maxLen_is]; omega)
  have c1 := sTexts_ok t.keys (t.plc key) key hp (by omega)
  have c2 := sTexts_ok t.vals (t.plc key) val (by omega) (by omega)
  obtain ⟨rs, hrs⟩ : ∃ rs, rs = (⟨insL t.keys (t.plc key) key, insL t.vals (t.plc key) val, []⟩ : Tr).row.map AC.y := ⟨_, rfl⟩
  rw [← hrs]
  rw [Tr.row_eq] at hrs
  dsimp only at hrs
  obtain ⟨ks, hks⟩ : ∃ p, p = (insL t.keys (t.plc key) key).map rowS := ⟨_, rfl⟩
  obtain ⟨vs, hvs⟩ : ∃ p, p = (insL t.vals (t.plc key) val).map rowS := ⟨_, rfl⟩
  rw [← hks] at c1 hrs
  rw [← hvs] at c2 hrs
  obtain ⟨b, hb⟩ : ∃ b, b = t.has key := ⟨_, rfl⟩
  rw [← hb] at c0
  obtain ⟨p, hpp⟩ : ∃ p, p = t.plc key := ⟨_, rfl⟩
  rw [← hpp] at c0 c1 c2
  obtain ⟨zs, hzs⟩ : ∃ p, p = t.kids.map Tr.row := ⟨_, rfl⟩
  have hz0 : zs = [] := by rw [hzs, h3]; rfl
  rw [← hzs] at c0 ⊢
  obtain ⟨M, hM⟩ := mapEx
  try simp only [hM]
  refine goQ Try.func59 rfl rfl rfl rfl fun pAdd pSub pMul pQuo pRem pAnd pOr pXor pAndNot pShl pShr pNeg pCompl pConv pLt pLe pEq pSlt pSle pSeq pCat pCatOk pSlen pSsub pSat pIadd pIsub pBnot pBeq pImin pImax pLlen pLsub pLapp pLset pLcopy pLenOk pBytes pRep hF Ca hC Q1 hQ => ?_
  cbv
  refine callI hC (by have hh := c0; (try simp only [hM] at hh); exact hh) ?_
  cbv
  have hz : pLlen zs = 0 := (llenIs hF zs).trans (by rw [hz0]; rfl)
  rw [hz]
  refine brT (mkEq hF rfl) ?_
  try cbv
  refine callI hC (by have hh := c1; (try simp only [hM] at hh); exact hh) ?_
  cbv
  refine callI hC (by have hh := c2; (try simp only [hM] at hh); exact hh) ?_
  cbv
  refine hQ _ ?_
  rw [hrs]
  simp [resOf, Res.lo, RV.lo, AC.lo]
/-- A node below which it is put, as it stands. -/
theorem sPut_keep (t r : Tr) (key val : ByteArray) (h1 : t.keys.length ≤ 3) (h2 : t.vals.length = t.keys.length) (h3 : t.kids.length = t.keys.length + 1) (h4 : (t.kid (t.plc key)).keys.length ≠ 3) (h5 : (t.kid (t.plc key)).keys.length ≤ 3)
    (c1 : CallOK Try.prog 59 [.agg [.y (.sl 1 ((t.kid (t.plc key)).keys.map rowS)), .y (.sl 1 ((t.kid (t.plc key)).vals.map rowS)), .y (.sl 3 ((t.kid (t.plc key)).kids.map Tr.row))], aS key, aS val] ⟨.agg (r.row.map AC.y), []⟩) :
    CallOK Try.prog 59 [.agg [.y (.sl 1 (t.keys.map rowS)), .y (.sl 1 (t.vals.map rowS)), .y (.sl 3 (t.kids.map Tr.row))], aS key, aS val] ⟨.agg ((⟨t.keys, t.vals, t.kids.set (t.plc key) r⟩ : Tr).row.map AC.y), []⟩ := by
  refine CallQ.plain (Q := fun r' => r'.lo = ⟨.agg ((⟨t.keys, t.vals, t.kids.set (t.plc key) r⟩ : Tr).row.map AC.y), []⟩) ?_ fun _ h => h
  have hp := t.plc_le key
  have c0 := sPlace_ok t key (by rw [maxLen_is]; omega)
  obtain ⟨rs, hrs⟩ : ∃ rs, rs = (⟨t.keys, t.vals, t.kids.set (t.plc key) r⟩ : Tr).row.map AC.y := ⟨_, rfl⟩
  rw [← hrs]
  rw [Tr.row_eq] at hrs
  dsimp only at hrs
  obtain ⟨b, hb⟩ : ∃ b, b = t.has key := ⟨_, rfl⟩
  rw [← hb] at c0
  have hkp : t.plc key < t.kids.length := by omega
  obtain ⟨kid, hkid⟩ : ∃ c, c = t.kid (t.plc key) := ⟨_, rfl⟩
  have hkid' : kid = t.kids[t.plc key] := by rw [hkid, Tr.kid, getD_at hkp]
  rw [← hkid] at c1 h4 h5
  obtain ⟨p, hpp⟩ : ∃ p, p = t.plc key := ⟨_, rfl⟩
  simp only [← hpp] at c0 hrs hkid' hkp
  rw [Tr.row_eq r] at c1
  rw [List.map_set, Tr.row_eq r] at hrs
  obtain ⟨zs, hzs⟩ : ∃ p, p = t.kids.map Tr.row := ⟨_, rfl⟩
  have hzl : zs.length = t.kids.length := by rw [hzs, List.length_map]
  obtain ⟨M, hM⟩ := mapEx
  try simp only [hM]
  refine goQ Try.func59 rfl rfl rfl rfl fun pAdd pSub pMul pQuo pRem pAnd pOr pXor pAndNot pShl pShr pNeg pCompl pConv pLt pLe pEq pSlt pSle pSeq pCat pCatOk pSlen pSsub pSat pIadd pIsub pBnot pBeq pImin pImax pLlen pLsub pLapp pLset pLcopy pLenOk pBytes pRep hF Ca hC Q1 hQ => ?_
  cbv
  refine callI hC (by have hh := c0; (try simp only [hM] at hh); exact hh) ?_
  cbv
  have zD : ∀ a b, pLe a b = decide (a ≤ b) := leD hF
  have gD : ∀ a b, pLt a b = decide (a < b) := ltD hF
  have nD : ∀ xs : List (List Y), pLlen xs = Int.ofNat xs.length := fun xs => llenIs hF xs
  have uD : ∀ xs a b, pLsub xs a b = (xs.drop a.toNat).take b.toNat := lsubDD hF
  have iD : ∀ a b, pIsub a b = a - b := isubDD hF
  have aD : ∀ a b, pIadd a b = a + b := iaddDD hF
  have kD : ∀ a, pLenOk a = decide (a ≤ 4294967296) := lenOkDD hF
  have pD : ∀ a b, pLapp a b = a ++ b := lappDD hF
  have tD : ∀ l i x, pLset l i x = l.set i.toNat x := lsetDD hF
  have ln : pLlen (M Tr.row t.kids) = Int.ofNat t.kids.length := (llenIs hF _).trans (by rw [← hM, List.length_map]; rfl)
  rw [ln]
  refine brkI (fun h => ?_) (fun h => ?_) <;> try cbv
  · have h := eqT hF h
    exact absurd h (by ((try simp only [Int.ofNat_eq_natCast] at *); omega))
  refine lgetM (l := t.kids) (fun u => [.sl 1 (M rowS u.keys), .sl 1 (M rowS u.vals), .sl 3 (M Tr.row u.kids)]) (fun u => by simp only [Tr.row_eq, hM]) (hM _ _).symm hkp fun c hc => ?_
  cbv
  have hck : c = kid := hc.trans hkid'.symm
  subst hck
  have lc : pLlen (M rowS c.keys) = Int.ofNat c.keys.length := (llenIs hF _).trans (by rw [← hM, List.length_map]; rfl)
  rw [lc]
  refine brkI (fun h => ?_) (fun h => ?_) <;> try cbv
  · have h := eqT hF h
    exact absurd h (by ((try simp only [Int.ofNat_eq_natCast] at *); omega))
  have k1 : pLenOk (pLlen (M rowS t.keys)) = true := lenOkLen hF (by rw [← hM, List.length_map]; omega)
  have k2 : pLenOk (pLlen (M rowS t.vals)) = true := lenOkLen hF (by rw [← hM, List.length_map]; omega)
  have k3 : pLenOk (pLlen (M Tr.row t.kids)) = true := lenOkLen hF (by rw [← hM, List.length_map]; omega)
  refine brT k1 (brT k2 (brT k3 ?_))
  refine lgetM (l := t.kids) (fun u => [.sl 1 (M rowS u.keys), .sl 1 (M rowS u.vals), .sl 3 (M Tr.row u.kids)]) (fun u => by simp only [Tr.row_eq, hM]) (hM _ _).symm hkp fun c' hc' => ?_
  cbv
  have hck' : c' = c := hc'.trans hc.symm
  subst hck'
  refine callI hC (by have hh := c1; (try simp only [hM] at hh); exact hh) ?_
  cbv
  have k4 : pLe 0 (Int.ofNat p) = true := zeroLe hF p
  have k5 : pLt (Int.ofNat p) (pLlen (M Tr.row t.kids)) = true := mkLt hF (by rw [ln]; ((try simp only [Int.ofNat_eq_natCast] at *); omega))
  refine brT k4 (brT k5 ?_)
  refine lgetM (l := t.kids) (fun u => [.sl 1 (M rowS u.keys), .sl 1 (M rowS u.vals), .sl 3 (M Tr.row u.kids)]) (fun u => by simp only [Tr.row_eq, hM]) (hM _ _).symm hkp fun c2 hc2 => ?_
  cbv
  refine hQ _ ?_
  rw [hrs, tD]
  simp only [← hM]
  simp [resOf, Res.lo, RV.lo, AC.lo]
/-- A node below which it is put, its kid split ahead. -/
theorem sPut_split (t t' r : Tr) (key val : ByteArray) (h1 : t.keys.length ≤ 3) (h2 : t.vals.length = t.keys.length) (h3 : t.kids.length = t.keys.length + 1) (h4 : (t.kid (t.plc key)).keys.length = 3)
    (h5 : (t.kid (t.plc key)).vals.length = 3) (h6 : (t.kid (t.plc key)).kids = [] ∨ (t.kid (t.plc key)).kids.length = 4) (ht : t' = splitT t (t.plc key))
    (m1 : t'.keys.length ≤ 4) (m2 : t'.vals.length = t'.keys.length) (m3 : t'.kids.length = t'.keys.length + 1)
    (c1 : CallOK Try.prog 59 [.agg [.y (.sl 1 ((t'.kid (t'.plc key)).keys.map rowS)), .y (.sl 1 ((t'.kid (t'.plc key)).vals.map rowS)), .y (.sl 3 ((t'.kid (t'.plc key)).kids.map Tr.row))], aS key, aS val] ⟨.agg (r.row.map AC.y), []⟩) :
    CallOK Try.prog 59 [.agg [.y (.sl 1 (t.keys.map rowS)), .y (.sl 1 (t.vals.map rowS)), .y (.sl 3 (t.kids.map Tr.row))], aS key, aS val] ⟨.agg ((⟨t'.keys, t'.vals, t'.kids.set (t'.plc key) r⟩ : Tr).row.map AC.y), []⟩ := by
  refine CallQ.plain (Q := fun r' => r'.lo = ⟨.agg ((⟨t'.keys, t'.vals, t'.kids.set (t'.plc key) r⟩ : Tr).row.map AC.y), []⟩) ?_ fun _ h => h
  have hp := t.plc_le key
  have hp' := t'.plc_le key
  have c0 := sPlace_ok t key (by rw [maxLen_is]; omega)
  have c2 := sSplit_ok t (t.plc key) (by omega) hp h2 h1 (by omega) h4 h5 h6
  rw [← ht] at c2
  have c3 := sPlace_ok t' key (by rw [maxLen_is]; omega)
  obtain ⟨rs, hrs⟩ : ∃ rs, rs = (⟨t'.keys, t'.vals, t'.kids.set (t'.plc key) r⟩ : Tr).row.map AC.y := ⟨_, rfl⟩
  rw [← hrs]
  rw [Tr.row_eq] at hrs
  dsimp only at hrs
  obtain ⟨b, hb⟩ : ∃ b, b = t.has key := ⟨_, rfl⟩
  obtain ⟨b', hb'⟩ : ∃ b, b = t'.has key := ⟨_, rfl⟩
  rw [← hb] at c0
  rw [← hb'] at c3
  have hkp : t.plc key < t.kids.length := by omega
  have hkp' : t'.plc key < t'.kids.length := by omega
  obtain ⟨kid, hkid⟩ : ∃ c, c = t.kid (t.plc key) := ⟨_, rfl⟩
  have hkid' : kid = t.kids[t.plc key] := by rw [hkid, Tr.kid, getD_at hkp]
  rw [← hkid] at h4
  obtain ⟨kid2, hkid2⟩ : ∃ c, c = t'.kid (t'.plc key) := ⟨_, rfl⟩
  have hkid2' : kid2 = t'.kids[t'.plc key] := by rw [hkid2, Tr.kid, getD_at hkp']
  rw [← hkid2] at c1
  obtain ⟨p, hpp⟩ : ∃ p, p = t.plc key := ⟨_, rfl⟩
  simp only [← hpp] at c0 c2 hkid' hkp
  obtain ⟨p', hpp'⟩ : ∃ p, p = t'.plc key := ⟨_, rfl⟩
  simp only [← hpp'] at c3 hrs hkid2' hkp'
  rw [Tr.row_eq r] at c1
  rw [Tr.row_eq t'] at c2
  rw [List.map_set, Tr.row_eq r] at hrs
  obtain ⟨M, hM⟩ := mapEx
  try simp only [hM]
  refine goQ Try.func59 rfl rfl rfl rfl fun pAdd pSub pMul pQuo pRem pAnd pOr pXor pAndNot pShl pShr pNeg pCompl pConv pLt pLe pEq pSlt pSle pSeq pCat pCatOk pSlen pSsub pSat pIadd pIsub pBnot pBeq pImin pImax pLlen pLsub pLapp pLset pLcopy pLenOk pBytes pRep hF Ca hC Q1 hQ => ?_
  cbv
  refine callI hC (by have hh := c0; (try simp only [hM] at hh); exact hh) ?_
  cbv
  have zD : ∀ a b, pLe a b = decide (a ≤ b) := leD hF
  have gD : ∀ a b, pLt a b = decide (a < b) := ltD hF
  have nD : ∀ xs : List (List Y), pLlen xs = Int.ofNat xs.length := fun xs => llenIs hF xs
  have uD : ∀ xs a b, pLsub xs a b = (xs.drop a.toNat).take b.toNat := lsubDD hF
  have iD : ∀ a b, pIsub a b = a - b := isubDD hF
  have aD : ∀ a b, pIadd a b = a + b := iaddDD hF
  have kD : ∀ a, pLenOk a = decide (a ≤ 4294967296) := lenOkDD hF
  have pD : ∀ a b, pLapp a b = a ++ b := lappDD hF
  have tD : ∀ l i x, pLset l i x = l.set i.toNat x := lsetDD hF
  have ln : pLlen (M Tr.row t.kids) = Int.ofNat t.kids.length := (llenIs hF _).trans (by rw [← hM, List.length_map]; rfl)
  rw [ln]
  refine brkI (fun h => ?_) (fun h => ?_) <;> try cbv
  · have h := eqT hF h
    exact absurd h (by ((try simp only [Int.ofNat_eq_natCast] at *); omega))
  refine lgetM (l := t.kids) (fun u => [.sl 1 (M rowS u.keys), .sl 1 (M rowS u.vals), .sl 3 (M Tr.row u.kids)]) (fun u => by simp only [Tr.row_eq, hM]) (hM _ _).symm hkp fun c hc => ?_
  cbv
  have hck : c = kid := hc.trans hkid'.symm
  subst hck
  have lc : pLlen (M rowS c.keys) = Int.ofNat c.keys.length := (llenIs hF _).trans (by rw [← hM, List.length_map]; rfl)
  rw [lc]
  refine brkI (fun h => ?_) (fun h => ?_) <;> try cbv
  rotate_left
  · have h := eqF hF h
    exact absurd (by ((try simp only [Int.ofNat_eq_natCast] at *); omega)) h
  refine callI hC (by have hh := c2; (try simp only [hM] at hh); exact hh) ?_
  cbv
  refine callI hC (by have hh := c3; (try simp only [hM] at hh); exact hh) ?_
  cbv
  have k1 : pLenOk (pLlen (M rowS t'.keys)) = true := lenOkLen hF (by rw [← hM, List.length_map]; omega)
  have k2 : pLenOk (pLlen (M rowS t'.vals)) = true := lenOkLen hF (by rw [← hM, List.length_map]; omega)
  have k3 : pLenOk (pLlen (M Tr.row t'.kids)) = true := lenOkLen hF (by rw [← hM, List.length_map]; omega)
  have ln' : pLlen (M Tr.row t'.kids) = Int.ofNat t'.kids.length := (llenIs hF _).trans (by rw [← hM, List.length_map]; rfl)
  refine brT k1 (brT k2 (brT k3 ?_))
  refine lgetM (l := t'.kids) (fun u => [.sl 1 (M rowS u.keys), .sl 1 (M rowS u.vals), .sl 3 (M Tr.row u.kids)]) (fun u => by simp only [Tr.row_eq, hM]) (hM _ _).symm hkp' fun c' hc' => ?_
  cbv
  have hck' : c' = kid2 := hc'.trans hkid2'.symm
  subst hck'
  refine callI hC (by have hh := c1; (try simp only [hM] at hh); exact hh) ?_
  cbv
  have k4 : pLe 0 (Int.ofNat p') = true := zeroLe hF p'
  have k5 : pLt (Int.ofNat p') (pLlen (M Tr.row t'.kids)) = true := mkLt hF (by rw [ln']; ((try simp only [Int.ofNat_eq_natCast] at *); omega))
  refine brT k4 (brT k5 ?_)
  refine lgetM (l := t'.kids) (fun u => [.sl 1 (M rowS u.keys), .sl 1 (M rowS u.vals), .sl 3 (M Tr.row u.kids)]) (fun u => by simp only [Tr.row_eq, hM]) (hM _ _).symm hkp' fun c2 hc2 => ?_
  cbv
  refine hQ _ ?_
  rw [hrs, tD]
  simp only [← hM]
  simp [resOf, Res.lo, RV.lo, AC.lo]
theorem split_small {lo d k : Nat} {t : Tr} {X Y V W A c B} {key : ByteArray} (ha : At lo d k t X Y V W A c B) (hk : t.plc key = k) (h3 : c.keys.length = 3) (h2 : t.keys.length ≤ 2) :
    ((splitT t k).kid ((splitT t k).plc key)).keys.length ≤ 2 := by
  obtain ⟨e, hf, a1, a2⟩ := ha.split' h3 h2
  obtain ⟨p1, p2, p3, p4, p5⟩ := part_ok ha.nc h3
  have hX := ha.hX
  have g := plc_at (X := X) (Y := Y) (V := V ++ W) (C := A ++ c :: B) (key := key) (by rw [← ha.eq, hk, hX])
  by_cases h4 : ltS (c.key 1) key = true
  · have hp : (splitT t k).plc key = k + 1 := by
      have := plc_to (X := X ++ [c.key 1]) (Y := Y) (V := V ++ c.val 1 :: W) (C := A ++ partT c 0 1 :: partT c 2 3 :: B) (key := key) (fun x hx => by
        rcases List.mem_append.1 hx with hx | hx
        · exact g.1 x hx
        · rw [List.mem_singleton.1 hx]; exact h4) g.2
      rw [e]
      simpa [hX] using this
    rw [hp, a2.kid]; omega
  · have hp : (splitT t k).plc key = k := by
      have := plc_to (X := X) (Y := c.key 1 :: Y) (V := V ++ c.val 1 :: W) (C := A ++ partT c 0 1 :: partT c 2 3 :: B) (key := key) g.1 (fun y Y' e => by
        injection e with e _; rw [← e]; simpa using h4)
      rw [e]
      simpa [hX] using this
    rw [hp, a1.kid]; omega
theorem sPut_ok : ∀ (d lo : Nat) (t : Tr) (key val : ByteArray), Nd lo d t → t.keys.length ≤ 2 → CallOK Try.prog 59 [.agg [.y (.sl 1 (t.keys.map rowS)), .y (.sl 1 (t.vals.map rowS)), .y (.sl 3 (t.kids.map Tr.row))], aS key, aS val] ⟨.agg ((putN d t key val).row.map AC.y), []⟩
  | 0, _, _, _, _, h, _ => h.elim
  | d + 1, lo, t, key, val, h, h2 => by
    obtain ⟨l1, l2, l3⟩ := h.lens
    rw [putN]
    by_cases hk : t.kids = []
    · rw [if_pos hk]
      exact sPut_leaf t key val l1 l2 hk
    rw [if_neg hk]
    have l3 := l3.resolve_left hk
    cases d with
    | zero => exact absurd (h.2.2.2.resolve_right fun h => h.2.1 rfl).1 hk
    | succ d =>
      obtain ⟨X, Y, V, W, A, c, B, ha⟩ := h.at (t.plc_le key)
      have hc := ha.nc
      obtain ⟨m1, m2, m3⟩ := hc.lens
      by_cases h3 : (t.kid (t.plc key)).keys.length = 3
      · rw [if_pos h3]
        rw [ha.kid] at h3
        obtain ⟨e, hf, a1, a2⟩ := ha.split' h3 h2
        obtain ⟨p1, p2, p3, p4, p5⟩ := part_ok ha.nc h3
        obtain ⟨t', ht'⟩ : ∃ t', t' = splitT t (t.plc key) := ⟨_, rfl⟩
        have hsm := split_small ha rfl h3 h2
        rw [← ht'] at a1 a2 hsm
        simp only [← ht']
        have hnd := a1.nd
        obtain ⟨n1, n2, n3⟩ := hnd.lens
        have n3 := n3.resolve_left (by rw [a1.eq]; simp)
        refine sPut_split t t' _ key val l1 l2 l3 (by rw [ha.kid]; exact h3) (by rw [ha.kid]; omega) (by rw [ha.kid]; exact m3.imp id (by omega)) ht' (by omega) n2 n3 ?_
        obtain ⟨X', Y', V', W', A', c', B', ha'⟩ := hnd.at (t'.plc_le key)
        rw [ha'.kid] at hsm ⊢
        exact sPut_ok (d + 1) 1 c' key val ha'.nc hsm
      · rw [if_neg h3]
        have hle : c.keys.length ≤ 2 := by rw [ha.kid] at h3; omega
        refine sPut_keep t _ key val l1 l2 l3 h3 (by rw [ha.kid]; exact m1) ?_
        rw [ha.kid]
        exact sPut_ok (d + 1) 1 c key val hc hle
end Go.Proofs.Ythaelohccopgjaa
