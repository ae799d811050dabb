/- Functions of the program, each with what it returns, run by the evaluator; the conditions stand in the theorems. -/
import Derived.Test.YthaelohccopgjaaLTrY
namespace Go.Proofs.Ythaelohccopgjaa
open Go Go.Proofs.YthaelohccopgjaaW Go.Proofs
set_option linter.unusedVariables false
set_option linter.unusedSimpArgs false
set_option maxRecDepth 100000
set_option maxHeartbeats 8000000
theorem sJoin_ok (t : Tr) (k : Nat) (h1 : t.keys.length ≤ 4) (h2 : t.vals.length = t.keys.length) (h3 : t.kids.length = t.keys.length + 1) (hk : k < t.keys.length)
    (a1 : (t.kid k).keys.length ≤ 4) (a2 : (t.kid k).vals.length ≤ 4) (a3 : (t.kid k).kids.length ≤ 5) (b1 : (t.kid (k + 1)).keys.length ≤ 4) (b2 : (t.kid (k + 1)).vals.length ≤ 4) (b3 : (t.kid (k + 1)).kids.length ≤ 5) :
    CallOK Try.prog 78 [.agg [.y (.sl 1 (t.keys.map rowS)), .y (.sl 1 (t.vals.map rowS)), .y (.sl 3 (t.kids.map Tr.row))], aN (Int.ofNat k)] ⟨.agg ((joinT t k).row.map AC.y), []⟩ := by
  refine CallQ.plain (Q := fun r' => r'.lo = ⟨.agg ((joinT t k).row.map AC.y), []⟩) ?_ fun _ h => h
  have c1 := sWithout_ok t.keys k hk (by omega)
  have c2 := sWithout_ok t.vals k (by omega) (by omega)
  obtain ⟨rs, hrs⟩ : ∃ rs, rs = (joinT t k).row.map AC.y := ⟨_, rfl⟩
  rw [← hrs]
  rw [Tr.row_eq] at hrs
  simp only [joinT, List.map_append, List.map_cons, List.map_take, List.map_drop, Tr.row_eq ⟨(t.kid k).keys ++ _, _, _⟩] at hrs
  obtain ⟨ks, hks⟩ : ∃ p, p = (outL t.keys k).map rowS := ⟨_, rfl⟩
  obtain ⟨vs, hvs⟩ : ∃ p, p = (outL t.vals k).map rowS := ⟨_, rfl⟩
  rw [← hks] at c1 hrs
  rw [← hvs] at c2 hrs
  have hka : k < t.kids.length := by omega
  have hkb : k + 1 < t.kids.length := by omega
  obtain ⟨a, ha⟩ : ∃ a, a = t.kid k := ⟨_, rfl⟩
  obtain ⟨b, hb⟩ : ∃ a, a = t.kid (k + 1) := ⟨_, rfl⟩
  have ha' : a = t.kids[k] := by rw [ha, Tr.kid, getD_at hka]
  have hb' : b = t.kids[k + 1] := by rw [hb, Tr.kid, getD_at hkb]
  rw [← ha] at a1 a2 a3 hrs
  rw [← hb] at b1 b2 b3 hrs
  have hkv : k < t.vals.length := by omega
  obtain ⟨y, hy⟩ : ∃ y, y = t.key k := ⟨_, rfl⟩
  obtain ⟨w, hw⟩ : ∃ y, y = t.val k := ⟨_, rfl⟩
  have hy' : y = t.keys[k] := by rw [hy]; exact getD_at hk
  have hw' : w = t.vals[k] := by rw [hw]; exact getD_at hkv
  rw [← hy, ← hw] at hrs
  obtain ⟨M, hM⟩ := mapEx
  try simp only [hM]
  refine goQ Try.func78 rfl rfl rfl rfl fun pAdd pSub pMul pQuo pRem pAnd pOr pXor pAndNot pShl pShr pNeg pCompl pConv pLt pLe pEq pSlt pSle pSeq pCat pCatOk pSlen pSsub pSat pIadd pIsub pBnot pBeq pImin pImax pLlen pLsub pLapp pLset pLcopy pLenOk pBytes pRep hF Ca hC Q1 hQ => ?_
  cbv
  have zD : ∀ a b, pLe a b = decide (a ≤ b) := leD hF
  have gD : ∀ a b, pLt a b = decide (a < b) := ltD hF
  have nD : ∀ xs : List (List Y), pLlen xs = Int.ofNat xs.length := fun xs => llenIs hF xs
  have uD : ∀ xs a b, pLsub xs a b = (xs.drop a.toNat).take b.toNat := lsubDD hF
  have iD : ∀ a b, pIsub a b = a - b := isubDD hF
  have aD : ∀ a b, pIadd a b = a + b := iaddDD hF
  have kD : ∀ a, pLenOk a = decide (a ≤ 4294967296) := lenOkDD hF
  have pD : ∀ a b, pLapp a b = a ++ b := lappDD hF
  have tD : ∀ l i x, pLset l i x = l.set i.toNat x := lsetDD hF
  have ea : pAdd .i64 (Int.ofNat k) 1 = Int.ofNat (k + 1) := add1Is hF (by omega)
  refine lgetM (l := t.kids) (fun u => [.sl 1 (M rowS u.keys), .sl 1 (M rowS u.vals), .sl 3 (M Tr.row u.kids)]) (fun u => by simp only [Tr.row_eq, hM]) (hM _ _).symm hka fun c hc => ?_
  cbv
  have hca : c = a := hc.trans ha'.symm
  subst hca
  rw [ea]
  refine lgetM (l := t.kids) (fun u => [.sl 1 (M rowS u.keys), .sl 1 (M rowS u.vals), .sl 3 (M Tr.row u.kids)]) (fun u => by simp only [Tr.row_eq, hM]) (hM _ _).symm hkb fun c' hc' => ?_
  cbv
  have hcb : c' = b := hc'.trans hb'.symm
  subst hcb
  have k1 : pLenOk (pLlen (M rowS c.keys)) = true := lenOkLen hF (by rw [← hM, List.length_map]; omega)
  refine brT k1 ?_
  refine lgetM (l := t.keys) (fun u => [yS u]) (fun u => by simp only [rowS]) (hM _ _).symm hk fun u hu => ?_
  cbv
  have hyu : u = y := hu.trans hy'.symm
  subst hyu
  have la : (M rowS c.keys).length = c.keys.length := by rw [← hM, List.length_map]
  have lav : (M rowS c.vals).length = c.vals.length := by rw [← hM, List.length_map]
  have lb : (M rowS c'.keys).length = c'.keys.length := by rw [← hM, List.length_map]
  have lbv : (M rowS c'.vals).length = c'.vals.length := by rw [← hM, List.length_map]
  have lka : (M Tr.row c.kids).length = c.kids.length := by rw [← hM, List.length_map]
  have lkb : (M Tr.row c'.kids).length = c'.kids.length := by rw [← hM, List.length_map]
  have k2 : pLenOk (pIadd (pLlen (M rowS c.keys)) (pLlen [[Y.sc (Value.string u)]])) = true := lenOkIs hF (by rw [aD, nD, nD, la]; simp; omega)
  have k3 : pLenOk (pLlen (M rowS c.vals)) = true := lenOkLen hF (by rw [lav]; omega)
  refine brT k2 (brT k3 ?_)
  refine lgetM (l := t.vals) (fun u => [yS u]) (fun u => by simp only [rowS]) (hM _ _).symm hkv fun v hv => ?_
  cbv
  have hwv : v = w := hv.trans hw'.symm
  subst hwv
  have k4 : pLenOk (pIadd (pLlen (M rowS c.vals)) (pLlen [[Y.sc (Value.string v)]])) = true := lenOkIs hF (by rw [aD, nD, nD, lav]; simp; omega)
  have k5 : pLenOk (pIadd (pLlen (pLapp (M rowS c.keys) [[Y.sc (Value.string u)]])) (pLlen (M rowS c'.keys))) = true := lenOkIs hF (by rw [aD, nD, nD, pD, lb]; simp [la]; omega)
  have k6 : pLenOk (pIadd (pLlen (pLapp (M rowS c.vals) [[Y.sc (Value.string v)]])) (pLlen (M rowS c'.vals))) = true := lenOkIs hF (by rw [aD, nD, nD, pD, lbv]; simp [lav]; omega)
  have k7 : pLenOk (pLlen (M Tr.row c.kids)) = true := lenOkLen hF (by rw [lka]; omega)
  have k8 : pLenOk (pIadd (pLlen (M Tr.row c.kids)) (pLlen (M Tr.row c'.kids))) = true := lenOkIs hF (by rw [aD, nD, nD, lka, lkb]; simp; omega)
  refine brT k4 (brT k5 (brT k6 (brT k7 (brT k8 ?_))))
  refine callI hC (by have hh := c1; (try simp only [hM] at hh); exact hh) ?_
  cbv
  refine callI hC (by have hh := c2; (try simp only [hM] at hh); exact hh) ?_
  cbv
  obtain ⟨zs, hzs⟩ : ∃ zs, zs = M Tr.row t.kids := ⟨_, rfl⟩
  have hzl : zs.length = t.kids.length := by rw [hzs, ← hM, List.length_map]
  obtain ⟨za, hza⟩ : ∃ zs', zs' = zs.take k := ⟨_, rfl⟩
  obtain ⟨zb, hzb⟩ : ∃ zs', zs' = zs.drop (k + 2) := ⟨_, rfl⟩
  have lza : za.length = k := by rw [hza]; simp; omega
  have lzb : zb.length ≤ 1048576 := by rw [hzb]; simp; omega
  have e0 : pLsub zs 0 (pIsub (Int.ofNat k) 0) = za := by rw [uD, iD, hza]; simp
  have e2 : pAdd .i64 (Int.ofNat k) 2 = Int.ofNat (k + 2) := addNIs hF (k := 2) (by omega)
  have e1 : pLsub zs (Int.ofNat (k + 2)) (pIsub (pLlen zs) (Int.ofNat (k + 2))) = zb := by
    rw [uD, iD, nD, hzb, show (Int.ofNat (k + 2)).toNat = k + 2 from rfl, List.take_of_length_le (by simp only [List.length_drop]; ((try simp only [Int.ofNat_eq_natCast] at *); omega))]
  rw [← hzs, e0, e2, e1]
  obtain ⟨w2, hw2⟩ : ∃ w, w = [[Y.sl 1 (pLapp (pLapp (M rowS c.keys) [[Y.sc (Value.string u)]]) (M rowS c'.keys)), Y.sl 1 (pLapp (pLapp (M rowS c.vals) [[Y.sc (Value.string v)]]) (M rowS c'.vals)), Y.sl 3 (pLapp (M Tr.row c.kids) (M Tr.row c'.kids))]] := ⟨_, rfl⟩
  have lw : w2.length = 1 := by rw [hw2]; rfl
  rw [← hw2]
  have q1 : pLe 0 (Int.ofNat k) = true := zeroLe hF k
  have q2 : pLe (Int.ofNat k) (pLlen zs) = true := mkLe hF (by rw [nD]; ((try simp only [Int.ofNat_eq_natCast] at *); omega))
  have q3 : pLenOk (pIadd (pLlen []) (pLlen za)) = true := lenOkIs hF (by rw [aD, nD, nD, lza]; simp; omega)
  have q4 : pLenOk (pIadd (pLlen (pLapp [] za)) (pLlen w2)) = true := lenOkIs hF (by rw [aD, nD, nD, pD, lw]; simp [lza]; omega)
  have q5 : pLe 0 (Int.ofNat (k + 2)) = true := zeroLe hF (k + 2)
  have q6 : pLe (Int.ofNat (k + 2)) (pLlen zs) = true := mkLe hF (by rw [nD]; ((try simp only [Int.ofNat_eq_natCast] at *); omega))
  have q7 : pLenOk (pIadd (pLlen (pLapp (pLapp [] za) w2)) (pLlen zb)) = true := lenOkIs hF (by rw [aD, nD, nD, pD, pD]; simp [lza, lw]; omega)
  refine brT q1 (brT q2 (brT q3 (brT q4 (brT q5 (brT q6 (brT q7 ?_))))))
  refine hQ _ ?_
  rw [hrs, pD, pD, pD, hw2, hza, hzb, hzs, pD, pD, pD, pD, pD]
  simp only [← hM]
  simp [resOf, Res.lo, RV.lo, AC.lo, List.map_take, List.map_drop, rowS]
end Go.Proofs.Ythaelohccopgjaa
