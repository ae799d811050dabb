/- Functions of the program, each with what it returns, run by the evaluator; the conditions stand in the theorems. -/
import Derived.Test.YthaelohccopgjaaLTrZ
namespace Go.Proofs.Ythaelohccopgjaa
open Go Go.Proofs.YthaelohccopgjaaW Go.Proofs
set_option linter.unusedVariables false
set_option linter.unusedSimpArgs false
set_option maxRecDepth 100000
set_option maxHeartbeats 8000000
theorem sLendB_ok (t : Tr) (k : Nat) (h1 : t.keys.length ≤ 4) (h2 : t.vals.length = t.keys.length) (h3 : t.kids.length = t.keys.length + 1) (hk : k < t.keys.length)
    (a1 : (t.kid k).keys.length ≤ 4) (a2 : (t.kid k).vals.length = (t.kid k).keys.length) (a0 : 1 ≤ (t.kid k).keys.length) (a3 : (t.kid k).kids = [] ∨ (t.kid k).kids.length = (t.kid k).keys.length + 1)
    (b1 : (t.kid (k + 1)).keys.length ≤ 4) (b2 : (t.kid (k + 1)).vals.length = (t.kid (k + 1)).keys.length) (b3 : (t.kid (k + 1)).kids.length ≤ 5) (ab : (t.kid (k + 1)).kids ≠ [] → (t.kid k).kids ≠ []) :
    CallOK Try.prog 90 [.agg [.y (.sl 1 (t.keys.map rowS)), .y (.sl 1 (t.vals.map rowS)), .y (.sl 3 (t.kids.map Tr.row))], aN (Int.ofNat k), aB true] ⟨.agg ((lendB t k).row.map AC.y), []⟩ := by
  refine CallQ.plain (Q := fun r' => r'.lo = ⟨.agg ((lendB t k).row.map AC.y), []⟩) ?_ fun _ h => h
  have hka : k < t.kids.length := by omega
  have hkb : k + 1 < t.kids.length := by omega
  have hkv : k < t.vals.length := by omega
  obtain ⟨rs, hrs⟩ : ∃ rs, rs = (lendB t k).row.map AC.y := ⟨_, rfl⟩
  rw [← hrs]
  rw [Tr.row_eq] at hrs
  simp only [lendB, List.map_set] at hrs
  obtain ⟨a, ha⟩ : ∃ a, a = t.kid k := ⟨_, rfl⟩
  obtain ⟨b, hb⟩ : ∃ a, a = t.kid (k + 1) := ⟨_, rfl⟩
  have ha' : a = t.kids[k] := by rw [ha, Tr.kid, getD_at hka]
  have hb' : b = t.kids[k + 1] := by rw [hb, Tr.kid, getD_at hkb]
  rw [← ha] at a0 a1 a2 a3 ab hrs
  rw [← hb] at b1 b2 b3 ab hrs
  obtain ⟨y, hy⟩ : ∃ y, y = t.key k := ⟨_, rfl⟩
  obtain ⟨w, hw⟩ : ∃ y, y = t.val k := ⟨_, rfl⟩
  have hy' : y = t.keys[k] := by rw [hy]; exact getD_at hk
  have hw' : w = t.vals[k] := by rw [hw]; exact getD_at hkv
  rw [← hy, ← hw] at hrs
  obtain ⟨n, hn⟩ : ∃ n, n = a.keys.length := ⟨_, rfl⟩
  rw [← hn] at a0 a1 a2 a3 hrs
  have c1 := sTexts_ok b.keys 0 y (Nat.zero_le _) (by omega)
  have c2 := sTexts_ok b.vals 0 w (Nat.zero_le _) (by omega)
  have c3 := sPart_ok a 0 (n - 1) (by omega) (by omega) (by omega) (by omega) (a3.imp id (by omega))
  obtain ⟨p, hp⟩ : ∃ p, p = partT a 0 (n - 1) := ⟨_, rfl⟩
  rw [← hp] at c3 hrs
  rw [Tr.row_eq] at c3
  obtain ⟨ks, hks⟩ : ∃ p, p = (insL b.keys 0 y).map rowS := ⟨_, rfl⟩
  obtain ⟨vs, hvs⟩ : ∃ p, p = (insL b.vals 0 w).map rowS := ⟨_, rfl⟩
  rw [← hks] at c1
  rw [← hvs] at c2
  have hn1 : n - 1 < a.keys.length := by omega
  have hn2 : n - 1 < a.vals.length := by omega
  obtain ⟨ky, hky⟩ : ∃ u, u = a.key (n - 1) := ⟨_, rfl⟩
  obtain ⟨vy, hvy⟩ : ∃ u, u = a.val (n - 1) := ⟨_, rfl⟩
  have hky' : ky = a.keys[n - 1] := by rw [hky]; exact getD_at hn1
  have hvy' : vy = a.vals[n - 1] := by rw [hvy]; exact getD_at hn2
  rw [← hky, ← hvy] at hrs
  obtain ⟨M, hM⟩ := mapEx
  try simp only [hM]
  refine goQ Try.func90 rfl rfl rfl rfl fun pAdd pSub pMul pQuo pRem pAnd pOr pXor pAndNot pShl pShr pNeg pCompl pConv pLt pLe pEq pSlt pSle pSeq pCat pCatOk pSlen pSsub pSat pIadd pIsub pBnot pBeq pImin pImax pLlen pLsub pLapp pLset pLcopy pLenOk pBytes pRep hF Ca hC Q1 hQ => ?_
  cbv
  have zD : ∀ a b, pLe a b = decide (a ≤ b) := leD hF
  have gD : ∀ a b, pLt a b = decide (a < b) := ltD hF
  have nD : ∀ xs : List (List Y), pLlen xs = Int.ofNat xs.length := fun xs => llenIs hF xs
  have uD : ∀ xs a b, pLsub xs a b = (xs.drop a.toNat).take b.toNat := lsubDD hF
  have iD : ∀ a b, pIsub a b = a - b := isubDD hF
  have aD : ∀ a b, pIadd a b = a + b := iaddDD hF
  have kD : ∀ a, pLenOk a = decide (a ≤ 4294967296) := lenOkDD hF
  have pD : ∀ a b, pLapp a b = a ++ b := lappDD hF
  have tD : ∀ l i x, pLset l i x = l.set i.toNat x := lsetDD hF
  have l1 : (M rowS t.keys).length = t.keys.length := by rw [← hM, List.length_map]
  have l2 : (M rowS t.vals).length = t.vals.length := by rw [← hM, List.length_map]
  have l3 : (M Tr.row t.kids).length = t.kids.length := by rw [← hM, List.length_map]
  have k1 : pLenOk (pLlen (M rowS t.keys)) = true := lenOkLen hF (by omega)
  have k2 : pLenOk (pLlen (M rowS t.vals)) = true := lenOkLen hF (by omega)
  have k3 : pLenOk (pLlen (M Tr.row t.kids)) = true := lenOkLen hF (by omega)
  refine brT k1 (brT k2 (brT k3 ?_))
  have ea : pAdd .i64 (Int.ofNat k) 1 = Int.ofNat (k + 1) := add1Is hF (by omega)
  refine lgetM (l := t.kids) (fun u => [.sl 1 (M rowS u.keys), .sl 1 (M rowS u.vals), .sl 3 (M Tr.row u.kids)]) (fun u => by simp only [Tr.row_eq, hM]) (hM _ _).symm hka fun c hc => ?_
  cbv
  have hca : c = a := hc.trans ha'.symm
  subst hca
  rw [ea]
  refine lgetM (l := t.kids) (fun u => [.sl 1 (M rowS u.keys), .sl 1 (M rowS u.vals), .sl 3 (M Tr.row u.kids)]) (fun u => by simp only [Tr.row_eq, hM]) (hM _ _).symm hkb fun c' hc' => ?_
  cbv
  have hcb : c' = b := hc'.trans hb'.symm
  subst hcb
  refine lgetM (l := t.keys) (fun u => [yS u]) (fun u => by simp only [rowS]) (hM _ _).symm hk fun u hu => ?_
  cbv
  have hyu : u = y := hu.trans hy'.symm
  subst hyu
  refine callI hC (by have hh := c1; (try simp only [hM] at hh); exact hh) ?_
  cbv
  refine lgetM (l := t.vals) (fun u => [yS u]) (fun u => by simp only [rowS]) (hM _ _).symm hkv fun v hv => ?_
  cbv
  have hwv : v = w := hv.trans hw'.symm
  subst hwv
  refine callI hC (by have hh := c2; (try simp only [hM] at hh); exact hh) ?_
  cbv
  have la : (M rowS c.keys).length = n := by rw [← hM, List.length_map]; exact hn.symm
  have lna : pLlen (M rowS c.keys) = Int.ofNat n := by rw [nD, la]
  have lkb : pLlen (M Tr.row c'.kids) = Int.ofNat c'.kids.length := by rw [nD, ← hM, List.length_map]
  have es : pSub .i64 (Int.ofNat n) 1 = Int.ofNat (n - 1) := sub1Is hF (by omega) (by omega)
  have p1 : pLe 0 (Int.ofNat k) = true := zeroLe hF k
  have p2 : pLt (Int.ofNat k) (pLlen (M rowS t.keys)) = true := mkLt hF (by rw [nD, l1]; ((try simp only [Int.ofNat_eq_natCast] at *); omega))
  have p3 : pLt (Int.ofNat k) (pLlen (M rowS t.vals)) = true := mkLt hF (by rw [nD, l2]; ((try simp only [Int.ofNat_eq_natCast] at *); omega))
  have p4 : pLt (Int.ofNat k) (pLlen (M Tr.row t.kids)) = true := mkLt hF (by rw [nD, l3]; ((try simp only [Int.ofNat_eq_natCast] at *); omega))
  rw [lna, lkb]
  refine brkI (fun h => ?_) (fun h => ?_) <;> try cbv
  · have h := ltT hF h
    have hkb0 : c'.kids ≠ [] := fun e => by rw [e] at h; simp at h
    have hka3 := a3.resolve_left (ab hkb0)
    refine lgetM (l := c.kids) (fun u => [.sl 1 (M rowS u.keys), .sl 1 (M rowS u.vals), .sl 3 (M Tr.row u.kids)]) (fun u => by simp only [Tr.row_eq, hM]) (hM _ _).symm (i := n) (by omega) fun x hx => ?_
    cbv
    have kx : pLenOk (pIadd (pLlen [[Y.sl 1 (M rowS x.keys), Y.sl 1 (M rowS x.vals), Y.sl 3 (M Tr.row x.kids)]]) (pLlen (M Tr.row c'.kids))) = true := lenOkIs hF (by rw [aD, lkb, nD]; simp; omega)
    refine brT kx ?_
    rw [es]
    refine lgetM (l := c.keys) (fun u => [yS u]) (fun u => by simp only [rowS]) (hM _ _).symm (i := n - 1) hn1 fun u1 hu1 => ?_
    cbv
    have hu1 : u1 = ky := hu1.trans hky'.symm
    subst hu1
    refine brT p1 (brT p2 ?_)
    refine lgetM (l := t.keys) (fun u => [yS u]) (fun u => by simp only [rowS]) (hM _ _).symm hk fun u2 hu2 => ?_
    cbv
    rw [es]
    refine lgetM (l := c.vals) (fun u => [yS u]) (fun u => by simp only [rowS]) (hM _ _).symm (i := n - 1) hn2 fun v1 hv1 => ?_
    cbv
    have hv1 : v1 = vy := hv1.trans hvy'.symm
    subst hv1
    refine brT p1 (brT p3 ?_)
    refine lgetM (l := t.vals) (fun u => [yS u]) (fun u => by simp only [rowS]) (hM _ _).symm hkv fun v2 hv2 => ?_
    cbv
    rw [es]
    refine callI hC (by have hh := c3; (try simp only [hM] at hh); exact hh) ?_
    cbv
    refine brT p1 (brT p4 ?_)
    refine lgetM (l := t.kids) (fun u => [.sl 1 (M rowS u.keys), .sl 1 (M rowS u.vals), .sl 3 (M Tr.row u.kids)]) (fun u => by simp only [Tr.row_eq, hM]) (hM _ _).symm hka fun x1 hx1 => ?_
    cbv
    rw [ea]
    obtain ⟨zs, hzs⟩ : ∃ zs, zs = pLset (M Tr.row t.kids) (Int.ofNat k) [Y.sl 1 (M rowS p.keys), Y.sl 1 (M rowS p.vals), Y.sl 3 (M Tr.row p.kids)] := ⟨_, rfl⟩
    have hz2 : zs = (t.kids.set k p).map Tr.row := by
      rw [hzs, tD, ← hM, List.map_set, Tr.row_eq p]; simp only [hM]; rfl
    have lz : zs.length = t.kids.length := by rw [hz2]; simp
    rw [← hzs]
    have p5 : pLe 0 (Int.ofNat (k + 1)) = true := zeroLe hF _
    have p6 : pLt (Int.ofNat (k + 1)) (pLlen zs) = true := mkLt hF (by rw [nD, lz]; ((try simp only [Int.ofNat_eq_natCast] at *); omega))
    refine brT p5 (brT p6 ?_)
    refine lgetM (l := t.kids.set k p) (fun u => [.sl 1 (M rowS u.keys), .sl 1 (M rowS u.vals), .sl 3 (M Tr.row u.kids)]) (fun u => by simp only [Tr.row_eq, hM]) hz2 (by simpa using hkb) fun x2 hx2 => ?_
    cbv
    have hkidn : c.kid n = x := by rw [hx, Tr.kid, getD_at]
    rw [if_neg hkb0, hkidn] at hrs
    refine hQ _ ?_
    rw [hrs, hks, hvs, hz2]
    simp only [tD, pD, ← hM]
    simp [resOf, Res.lo, RV.lo, AC.lo, insL, Tr.row_eq, rowS]
  · have h := ltF hF h
    rw [es]
    refine lgetM (l := c.keys) (fun u => [yS u]) (fun u => by simp only [rowS]) (hM _ _).symm (i := n - 1) hn1 fun u1 hu1 => ?_
    cbv
    have hu1 : u1 = ky := hu1.trans hky'.symm
    subst hu1
    refine brT p1 (brT p2 ?_)
    refine lgetM (l := t.keys) (fun u => [yS u]) (fun u => by simp only [rowS]) (hM _ _).symm hk fun u2 hu2 => ?_
    cbv
    rw [es]
    refine lgetM (l := c.vals) (fun u => [yS u]) (fun u => by simp only [rowS]) (hM _ _).symm (i := n - 1) hn2 fun v1 hv1 => ?_
    cbv
    have hv1 : v1 = vy := hv1.trans hvy'.symm
    subst hv1
    refine brT p1 (brT p3 ?_)
    refine lgetM (l := t.vals) (fun u => [yS u]) (fun u => by simp only [rowS]) (hM _ _).symm hkv fun v2 hv2 => ?_
    cbv
    rw [es]
    refine callI hC (by have hh := c3; (try simp only [hM] at hh); exact hh) ?_
    cbv
    refine brT p1 (brT p4 ?_)
    refine lgetM (l := t.kids) (fun u => [.sl 1 (M rowS u.keys), .sl 1 (M rowS u.vals), .sl 3 (M Tr.row u.kids)]) (fun u => by simp only [Tr.row_eq, hM]) (hM _ _).symm hka fun x1 hx1 => ?_
    cbv
    rw [ea]
    obtain ⟨zs, hzs⟩ : ∃ zs, zs = pLset (M Tr.row t.kids) (Int.ofNat k) [Y.sl 1 (M rowS p.keys), Y.sl 1 (M rowS p.vals), Y.sl 3 (M Tr.row p.kids)] := ⟨_, rfl⟩
    have hz2 : zs = (t.kids.set k p).map Tr.row := by
      rw [hzs, tD, ← hM, List.map_set, Tr.row_eq p]; simp only [hM]; rfl
    have lz : zs.length = t.kids.length := by rw [hz2]; simp
    rw [← hzs]
    have p5 : pLe 0 (Int.ofNat (k + 1)) = true := zeroLe hF _
    have p6 : pLt (Int.ofNat (k + 1)) (pLlen zs) = true := mkLt hF (by rw [nD, lz]; ((try simp only [Int.ofNat_eq_natCast] at *); omega))
    refine brT p5 (brT p6 ?_)
    refine lgetM (l := t.kids.set k p) (fun u => [.sl 1 (M rowS u.keys), .sl 1 (M rowS u.vals), .sl 3 (M Tr.row u.kids)]) (fun u => by simp only [Tr.row_eq, hM]) hz2 (by simpa using hkb) fun x2 hx2 => ?_
    cbv
    have hkb0 : c'.kids = [] := List.eq_nil_of_length_eq_zero (by ((try simp only [Int.ofNat_eq_natCast] at *); omega))
    rw [if_pos hkb0] at hrs
    refine hQ _ ?_
    rw [hrs, hks, hvs, hz2]
    simp only [tD, pD, ← hM]
    simp [resOf, Res.lo, RV.lo, AC.lo, insL, Tr.row_eq, rowS]
end Go.Proofs.Ythaelohccopgjaa
