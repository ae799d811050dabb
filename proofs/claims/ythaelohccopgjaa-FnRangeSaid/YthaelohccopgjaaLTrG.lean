/- Functions of the program, each with what it returns, run by the evaluator; the conditions stand in the theorems. -/
import Derived.Test.YthaelohccopgjaaLTrD
namespace Go.Proofs.Ythaelohccopgjaa
open Go Go.Proofs.YthaelohccopgjaaW Go.Proofs
set_option linter.unusedVariables false
set_option linter.unusedSimpArgs false
set_option maxRecDepth 100000
set_option maxHeartbeats 8000000
theorem sDel_leaf (t : Tr) (key : ByteArray) (h1 : t.keys.length ≤ 4) (h2 : t.vals.length = t.keys.length) (h3 : t.kids = []) (hh : t.has key = true) :
    CallOK Try.prog 61 [.agg [.y (.sl 1 (t.keys.map rowS)), .y (.sl 1 (t.vals.map rowS)), .y (.sl 3 (t.kids.map Tr.row))], aS key] ⟨.agg ((⟨outL t.keys (t.plc key), outL t.vals (t.plc key), []⟩ : Tr).row.map AC.y), []⟩ := by
  refine CallQ.plain (Q := fun r' => r'.lo = ⟨.agg ((⟨outL t.keys (t.plc key), outL t.vals (t.plc key), []⟩ : Tr).row.map AC.y), []⟩) ?_ fun _ h => h
  have hp : t.plc key < t.keys.length := by
    simp only [Tr.has, Bool.and_eq_true, decide_eq_true_eq] at hh
    exact hh.1
  have c0 := sPlace_ok t key (by rw [maxLen_is]; omega)
  rw [hh] at c0
  have c1 := sWithout_ok t.keys (t.plc key) hp (by omega)
  have c2 := sWithout_ok t.vals (t.plc key) (by omega) (by omega)
  obtain ⟨rs, hrs⟩ : ∃ rs, rs = (⟨outL t.keys (t.plc key), outL t.vals (t.plc key), []⟩ : Tr).row.map AC.y := ⟨_, rfl⟩
  rw [← hrs]
  rw [Tr.row_eq] at hrs
  dsimp only at hrs
  obtain ⟨ks, hks⟩ : ∃ p, p = (outL t.keys (t.plc key)).map rowS := ⟨_, rfl⟩
  obtain ⟨vs, hvs⟩ : ∃ p, p = (outL t.vals (t.plc key)).map rowS := ⟨_, rfl⟩
  rw [← hks] at c1 hrs
  rw [← hvs] at c2 hrs
  obtain ⟨p, hpp⟩ : ∃ p, p = t.plc key := ⟨_, rfl⟩
  rw [← hpp] at c0 c1 c2
  obtain ⟨zs, hzs⟩ : ∃ p, p = t.kids.map Tr.row := ⟨_, rfl⟩
  have hz0 : zs = [] := by rw [hzs, h3]; rfl
  rw [← hzs] at c0 ⊢
  obtain ⟨M, hM⟩ := mapEx
  try simp only [hM]
  refine goQ Try.func61 rfl rfl rfl rfl fun pAdd pSub pMul pQuo pRem pAnd pOr pXor pAndNot pShl pShr pNeg pCompl pConv pLt pLe pEq pSlt pSle pSeq pCat pCatOk pSlen pSsub pSat pIadd pIsub pBnot pBeq pImin pImax pLlen pLsub pLapp pLset pLcopy pLenOk pBytes pRep hF Ca hC Q1 hQ => ?_
  cbv
  refine callI hC (by have hh := c0; (try simp only [hM] at hh); exact hh) ?_
  cbv
  have hz : pLlen zs = 0 := (llenIs hF zs).trans (by rw [hz0]; rfl)
  rw [hz]
  refine brT (mkEq hF rfl) ?_
  try cbv
  refine callI hC (by have hh := c1; (try simp only [hM] at hh); exact hh) ?_
  cbv
  refine callI hC (by have hh := c2; (try simp only [hM] at hh); exact hh) ?_
  cbv
  refine hQ _ ?_
  rw [hrs]
  simp [resOf, Res.lo, RV.lo, AC.lo]
/-- Behind the node's making ready: a kid is gone into. -/
theorem sDel_fill (t u r : Tr) (key : ByteArray) (k' : Nat) (h1 : t.keys.length ≤ 4) (h3 : t.kids.length = t.keys.length + 1) (hh : t.has key = false)
    (cF : CallOK Try.prog 76 [.agg [.y (.sl 1 (t.keys.map rowS)), .y (.sl 1 (t.vals.map rowS)), .y (.sl 3 (t.kids.map Tr.row))], aN (Int.ofNat (t.plc key))] (fillRes u k')) (u1 : u.keys.length ≤ 9) (u2 : u.vals.length ≤ 9) (u3 : u.kids.length ≤ 9) (hk' : k' < u.kids.length)
    (cR : CallOK Try.prog 61 [.agg [.y (.sl 1 ((u.kid k').keys.map rowS)), .y (.sl 1 ((u.kid k').vals.map rowS)), .y (.sl 3 ((u.kid k').kids.map Tr.row))], aS key] ⟨.agg (r.row.map AC.y), []⟩) :
    CallOK Try.prog 61 [.agg [.y (.sl 1 (t.keys.map rowS)), .y (.sl 1 (t.vals.map rowS)), .y (.sl 3 (t.kids.map Tr.row))], aS key] ⟨.agg ((⟨u.keys, u.vals, u.kids.set k' r⟩ : Tr).row.map AC.y), []⟩ := by
  refine CallQ.plain (Q := fun r' => r'.lo = ⟨.agg ((⟨u.keys, u.vals, u.kids.set k' r⟩ : Tr).row.map AC.y), []⟩) ?_ fun _ h => h
  have c0 := sPlace_ok t key (by rw [maxLen_is]; omega)
  rw [hh] at c0
  obtain ⟨rs, hrs⟩ : ∃ rs, rs = (⟨u.keys, u.vals, u.kids.set k' r⟩ : Tr).row.map AC.y := ⟨_, rfl⟩
  rw [← hrs]
  rw [Tr.row_eq, List.map_set] at hrs
  dsimp only at hrs
  obtain ⟨kid, hkid⟩ : ∃ c, c = u.kid k' := ⟨_, rfl⟩
  have hkid' : kid = u.kids[k'] := by rw [hkid, Tr.kid, getD_at hk']
  rw [← hkid] at cR
  obtain ⟨p, hpp⟩ : ∃ p, p = t.plc key := ⟨_, rfl⟩
  rw [← hpp] at c0 cF
  rw [Tr.row_eq r] at cR hrs
  simp only [fillRes, Tr.row_eq u] at cF
  obtain ⟨M, hM⟩ := mapEx
  try simp only [hM]
  refine goQ Try.func61 rfl rfl rfl rfl fun pAdd pSub pMul pQuo pRem pAnd pOr pXor pAndNot pShl pShr pNeg pCompl pConv pLt pLe pEq pSlt pSle pSeq pCat pCatOk pSlen pSsub pSat pIadd pIsub pBnot pBeq pImin pImax pLlen pLsub pLapp pLset pLcopy pLenOk pBytes pRep hF Ca hC Q1 hQ => ?_
  cbv
  refine callI hC (by have hh := c0; (try simp only [hM] at hh); exact hh) ?_
  cbv
  refine callI hC (by have hh := cF; (try simp only [hM, List.map_cons, List.map_nil] at hh); exact hh) ?_
  cbv
  have zD : ∀ a b, pLe a b = decide (a ≤ b) := leD hF
  have gD : ∀ a b, pLt a b = decide (a < b) := ltD hF
  have nD : ∀ xs : List (List Y), pLlen xs = Int.ofNat xs.length := fun xs => llenIs hF xs
  have uD : ∀ xs a b, pLsub xs a b = (xs.drop a.toNat).take b.toNat := lsubDD hF
  have iD : ∀ a b, pIsub a b = a - b := isubDD hF
  have aD : ∀ a b, pIadd a b = a + b := iaddDD hF
  have kD : ∀ a, pLenOk a = decide (a ≤ 4294967296) := lenOkDD hF
  have pD : ∀ a b, pLapp a b = a ++ b := lappDD hF
  have tD : ∀ l i x, pLset l i x = l.set i.toNat x := lsetDD hF
  have ln : pLlen (M Tr.row u.kids) = Int.ofNat u.kids.length := (llenIs hF _).trans (by rw [← hM, List.length_map]; rfl)
  have m1 : pLenOk (pLlen (M rowS u.keys)) = true := lenOkLen hF (by rw [← hM, List.length_map]; omega)
  have m2 : pLenOk (pLlen (M rowS u.vals)) = true := lenOkLen hF (by rw [← hM, List.length_map]; omega)
  have m3 : pLenOk (pLlen (M Tr.row u.kids)) = true := lenOkLen hF (by rw [← hM, List.length_map]; omega)
  refine brT m1 (brT m2 (brT m3 ?_))
  refine lgetM (l := u.kids) (fun u => [.sl 1 (M rowS u.keys), .sl 1 (M rowS u.vals), .sl 3 (M Tr.row u.kids)]) (fun u => by simp only [Tr.row_eq, hM]) (hM _ _).symm hk' fun c2 hc2 => ?_
  cbv
  have hck' : c2 = kid := hc2.trans hkid'.symm
  subst hck'
  refine callI hC (by have hh := cR; (try simp only [hM, List.map_cons, List.map_nil] at hh); exact hh) ?_
  cbv
  have m4 : pLe 0 (Int.ofNat k') = true := zeroLe hF k'
  have m5 : pLt (Int.ofNat k') (pLlen (M Tr.row u.kids)) = true := mkLt hF (by rw [ln]; ((try simp only [Int.ofNat_eq_natCast] at *); omega))
  refine brT m4 (brT m5 ?_)
  refine lgetM (l := u.kids) (fun u => [.sl 1 (M rowS u.keys), .sl 1 (M rowS u.vals), .sl 3 (M Tr.row u.kids)]) (fun u => by simp only [Tr.row_eq, hM]) (hM _ _).symm hk' fun c3 hc3 => ?_
  cbv
  refine hQ _ ?_
  rw [hrs, tD]
  simp only [← hM]
  simp [resOf, Res.lo, RV.lo, AC.lo]
/-- Its two kids have one key each: they are joined. -/
theorem sDel_join (t u r : Tr) (key : ByteArray) (h1 : t.keys.length ≤ 4) (h3 : t.kids.length = t.keys.length + 1) (hh : t.has key = true) (g1 : (t.kid (t.plc key)).keys.length ≤ 1) (g2 : (t.kid (t.plc key + 1)).keys.length ≤ 1)
    (cF : CallOK Try.prog 78 [.agg [.y (.sl 1 (t.keys.map rowS)), .y (.sl 1 (t.vals.map rowS)), .y (.sl 3 (t.kids.map Tr.row))], aN (Int.ofNat (t.plc key))] ⟨.agg (u.row.map AC.y), []⟩) (u1 : u.keys.length ≤ 9) (u2 : u.vals.length ≤ 9) (u3 : u.kids.length ≤ 9) (hk' : t.plc key < u.kids.length)
    (cR : CallOK Try.prog 61 [.agg [.y (.sl 1 ((u.kid (t.plc key)).keys.map rowS)), .y (.sl 1 ((u.kid (t.plc key)).vals.map rowS)), .y (.sl 3 ((u.kid (t.plc key)).kids.map Tr.row))], aS key] ⟨.agg (r.row.map AC.y), []⟩) :
    CallOK Try.prog 61 [.agg [.y (.sl 1 (t.keys.map rowS)), .y (.sl 1 (t.vals.map rowS)), .y (.sl 3 (t.kids.map Tr.row))], aS key] ⟨.agg ((⟨u.keys, u.vals, u.kids.set (t.plc key) r⟩ : Tr).row.map AC.y), []⟩ := by
  refine CallQ.plain (Q := fun r' => r'.lo = ⟨.agg ((⟨u.keys, u.vals, u.kids.set (t.plc key) r⟩ : Tr).row.map AC.y), []⟩) ?_ fun _ h => h
  have hp : t.plc key < t.keys.length := by
    simp only [Tr.has, Bool.and_eq_true, decide_eq_true_eq] at hh
    exact hh.1
  have c0 := sPlace_ok t key (by rw [maxLen_is]; omega)
  rw [hh] at c0
  obtain ⟨k', hpp⟩ : ∃ p, p = t.plc key := ⟨_, rfl⟩
  rw [← hpp] at c0 cF g1 g2 hk' cR hp ⊢
  obtain ⟨rs, hrs⟩ : ∃ rs, rs = (⟨u.keys, u.vals, u.kids.set k' r⟩ : Tr).row.map AC.y := ⟨_, rfl⟩
  rw [← hrs]
  rw [Tr.row_eq, List.map_set] at hrs
  dsimp only at hrs
  obtain ⟨kid, hkid⟩ : ∃ c, c = u.kid k' := ⟨_, rfl⟩
  have hkid' : kid = u.kids[k'] := by rw [hkid, Tr.kid, getD_at hk']
  rw [← hkid] at cR
  rw [Tr.row_eq r] at cR hrs
  simp only [Tr.row_eq u] at cF
  have hka : k' < t.kids.length := by omega
  have hkb : k' + 1 < t.kids.length := by omega
  obtain ⟨M, hM⟩ := mapEx
  try simp only [hM]
  refine goQ Try.func61 rfl rfl rfl rfl fun pAdd pSub pMul pQuo pRem pAnd pOr pXor pAndNot pShl pShr pNeg pCompl pConv pLt pLe pEq pSlt pSle pSeq pCat pCatOk pSlen pSsub pSat pIadd pIsub pBnot pBeq pImin pImax pLlen pLsub pLapp pLset pLcopy pLenOk pBytes pRep hF Ca hC Q1 hQ => ?_
  cbv
  refine callI hC (by have hh := c0; (try simp only [hM] at hh); exact hh) ?_
  cbv
  have lnt : pLlen (M Tr.row t.kids) = Int.ofNat t.kids.length := (llenIs hF _).trans (by rw [← hM, List.length_map]; rfl)
  rw [lnt]
  refine brF (mkNe hF (by ((try simp only [Int.ofNat_eq_natCast] at *); omega))) ?_
  try cbv
  have lks : ∀ c : Tr, pLlen (M rowS c.keys) = Int.ofNat c.keys.length := fun c => (llenIs hF _).trans (by rw [← hM, List.length_map]; rfl)
  refine lgetM (l := t.kids) (fun u => [.sl 1 (M rowS u.keys), .sl 1 (M rowS u.vals), .sl 3 (M Tr.row u.kids)]) (fun u => by simp only [Tr.row_eq, hM]) (hM _ _).symm hka fun c hc => ?_
  cbv
  have hck : c = t.kid k' := hc.trans (getD_at hka).symm
  rw [← hck] at g1
  rw [lks]
  refine brF (mkNlt hF (by ((try simp only [Int.ofNat_eq_natCast] at *); omega))) ?_
  try cbv
  have ea : pAdd .i64 (Int.ofNat k') 1 = Int.ofNat (k' + 1) := add1Is hF (by omega)
  rw [ea]
  refine lgetM (l := t.kids) (fun u => [.sl 1 (M rowS u.keys), .sl 1 (M rowS u.vals), .sl 3 (M Tr.row u.kids)]) (fun u => by simp only [Tr.row_eq, hM]) (hM _ _).symm hkb fun c1 hc1 => ?_
  cbv
  have hck1 : c1 = t.kid (k' + 1) := hc1.trans (getD_at hkb).symm
  rw [← hck1] at g2
  rw [lks]
  refine brF (mkNlt hF (by ((try simp only [Int.ofNat_eq_natCast] at *); omega))) ?_
  try cbv
  refine callI hC (by have hh := cF; (try simp only [hM, List.map_cons, List.map_nil] at hh); exact hh) ?_
  cbv
  have zD : ∀ a b, pLe a b = decide (a ≤ b) := leD hF
  have gD : ∀ a b, pLt a b = decide (a < b) := ltD hF
  have nD : ∀ xs : List (List Y), pLlen xs = Int.ofNat xs.length := fun xs => llenIs hF xs
  have uD : ∀ xs a b, pLsub xs a b = (xs.drop a.toNat).take b.toNat := lsubDD hF
  have iD : ∀ a b, pIsub a b = a - b := isubDD hF
  have aD : ∀ a b, pIadd a b = a + b := iaddDD hF
  have kD : ∀ a, pLenOk a = decide (a ≤ 4294967296) := lenOkDD hF
  have pD : ∀ a b, pLapp a b = a ++ b := lappDD hF
  have tD : ∀ l i x, pLset l i x = l.set i.toNat x := lsetDD hF
  have ln : pLlen (M Tr.row u.kids) = Int.ofNat u.kids.length := (llenIs hF _).trans (by rw [← hM, List.length_map]; rfl)
  have m1 : pLenOk (pLlen (M rowS u.keys)) = true := lenOkLen hF (by rw [← hM, List.length_map]; omega)
  have m2 : pLenOk (pLlen (M rowS u.vals)) = true := lenOkLen hF (by rw [← hM, List.length_map]; omega)
  have m3 : pLenOk (pLlen (M Tr.row u.kids)) = true := lenOkLen hF (by rw [← hM, List.length_map]; omega)
  refine brT m1 (brT m2 (brT m3 ?_))
  refine lgetM (l := u.kids) (fun u => [.sl 1 (M rowS u.keys), .sl 1 (M rowS u.vals), .sl 3 (M Tr.row u.kids)]) (fun u => by simp only [Tr.row_eq, hM]) (hM _ _).symm hk' fun c2 hc2 => ?_
  cbv
  have hck' : c2 = kid := hc2.trans hkid'.symm
  subst hck'
  refine callI hC (by have hh := cR; (try simp only [hM, List.map_cons, List.map_nil] at hh); exact hh) ?_
  cbv
  have m4 : pLe 0 (Int.ofNat k') = true := zeroLe hF k'
  have m5 : pLt (Int.ofNat k') (pLlen (M Tr.row u.kids)) = true := mkLt hF (by rw [ln]; ((try simp only [Int.ofNat_eq_natCast] at *); omega))
  refine brT m4 (brT m5 ?_)
  refine lgetM (l := u.kids) (fun u => [.sl 1 (M rowS u.keys), .sl 1 (M rowS u.vals), .sl 3 (M Tr.row u.kids)]) (fun u => by simp only [Tr.row_eq, hM]) (hM _ _).symm hk' fun c3 hc3 => ?_
  cbv
  refine hQ _ ?_
  rw [hrs, tD]
  simp only [← hM]
  simp [resOf, Res.lo, RV.lo, AC.lo]
/-- The greatest key below its kid ahead goes up. -/
theorem sDel_G (t r : Tr) (key x v : ByteArray) (h1 : t.keys.length ≤ 4) (h2 : t.vals.length = t.keys.length) (h3 : t.kids.length = t.keys.length + 1) (hh : t.has key = true) (g1 : 1 < (t.kid (t.plc key)).keys.length)
    (cE : CallOK Try.prog 77 [.agg [.y (.sl 1 ((t.kid (t.plc key)).keys.map rowS)), .y (.sl 1 ((t.kid (t.plc key)).vals.map rowS)), .y (.sl 3 ((t.kid (t.plc key)).kids.map Tr.row))], aB true] (tupSS x v))
    (cR : CallOK Try.prog 61 [.agg [.y (.sl 1 ((t.kid (t.plc key)).keys.map rowS)), .y (.sl 1 ((t.kid (t.plc key)).vals.map rowS)), .y (.sl 3 ((t.kid (t.plc key)).kids.map Tr.row))], aS x] ⟨.agg (r.row.map AC.y), []⟩) :
    CallOK Try.prog 61 [.agg [.y (.sl 1 (t.keys.map rowS)), .y (.sl 1 (t.vals.map rowS)), .y (.sl 3 (t.kids.map Tr.row))], aS key] ⟨.agg ((⟨t.keys.set (t.plc key) x, t.vals.set (t.plc key) v, t.kids.set (t.plc key) r⟩ : Tr).row.map AC.y), []⟩ := by
  refine CallQ.plain (Q := fun r' => r'.lo = ⟨.agg ((⟨t.keys.set (t.plc key) x, t.vals.set (t.plc key) v, t.kids.set (t.plc key) r⟩ : Tr).row.map AC.y), []⟩) ?_ fun _ h => h
  have hp : t.plc key < t.keys.length := by
    simp only [Tr.has, Bool.and_eq_true, decide_eq_true_eq] at hh
    exact hh.1
  have c0 := sPlace_ok t key (by rw [maxLen_is]; omega)
  rw [hh] at c0
  obtain ⟨k', hpp⟩ : ∃ p, p = t.plc key := ⟨_, rfl⟩
  rw [← hpp] at c0 g1 cE cR hp ⊢
  obtain ⟨rs, hrs⟩ : ∃ rs, rs = (⟨t.keys.set k' x, t.vals.set k' v, t.kids.set k' r⟩ : Tr).row.map AC.y := ⟨_, rfl⟩
  rw [← hrs]
  rw [Tr.row_eq] at hrs
  dsimp only at hrs
  have hk' : k' < t.kids.length := by omega
  have hkv : k' < t.vals.length := by omega
  obtain ⟨kid, hkid⟩ : ∃ c, c = t.kid k' := ⟨_, rfl⟩
  have hkid' : kid = t.kids[k'] := by rw [hkid, Tr.kid, getD_at hk']
  rw [← hkid] at cR cE g1
  rw [Tr.row_eq r] at cR
  obtain ⟨M, hM⟩ := mapEx
  try simp only [hM]
  refine goQ Try.func61 rfl rfl rfl rfl fun pAdd pSub pMul pQuo pRem pAnd pOr pXor pAndNot pShl pShr pNeg pCompl pConv pLt pLe pEq pSlt pSle pSeq pCat pCatOk pSlen pSsub pSat pIadd pIsub pBnot pBeq pImin pImax pLlen pLsub pLapp pLset pLcopy pLenOk pBytes pRep hF Ca hC Q1 hQ => ?_
  cbv
  refine callI hC (by have hh := c0; (try simp only [hM] at hh); exact hh) ?_
  cbv
  have zD : ∀ a b, pLe a b = decide (a ≤ b) := leD hF
  have gD : ∀ a b, pLt a b = decide (a < b) := ltD hF
  have nD : ∀ xs : List (List Y), pLlen xs = Int.ofNat xs.length := fun xs => llenIs hF xs
  have uD : ∀ xs a b, pLsub xs a b = (xs.drop a.toNat).take b.toNat := lsubDD hF
  have iD : ∀ a b, pIsub a b = a - b := isubDD hF
  have aD : ∀ a b, pIadd a b = a + b := iaddDD hF
  have kD : ∀ a, pLenOk a = decide (a ≤ 4294967296) := lenOkDD hF
  have pD : ∀ a b, pLapp a b = a ++ b := lappDD hF
  have tD : ∀ l i x, pLset l i x = l.set i.toNat x := lsetDD hF
  have lnt : pLlen (M Tr.row t.kids) = Int.ofNat t.kids.length := (llenIs hF _).trans (by rw [← hM, List.length_map]; rfl)
  rw [lnt]
  refine brF (mkNe hF (by ((try simp only [Int.ofNat_eq_natCast] at *); omega))) ?_
  try cbv
  have lks : ∀ c : Tr, pLlen (M rowS c.keys) = Int.ofNat c.keys.length := fun c => (llenIs hF _).trans (by rw [← hM, List.length_map]; rfl)
  refine lgetM (l := t.kids) (fun u => [.sl 1 (M rowS u.keys), .sl 1 (M rowS u.vals), .sl 3 (M Tr.row u.kids)]) (fun u => by simp only [Tr.row_eq, hM]) (hM _ _).symm hk' fun c hc => ?_
  cbv
  have hck : c = kid := hc.trans hkid'.symm
  subst hck
  rw [lks]
  refine brT (mkLt hF (by ((try simp only [Int.ofNat_eq_natCast] at *); omega))) ?_
  try cbv
  refine lgetM (l := t.kids) (fun u => [.sl 1 (M rowS u.keys), .sl 1 (M rowS u.vals), .sl 3 (M Tr.row u.kids)]) (fun u => by simp only [Tr.row_eq, hM]) (hM _ _).symm hk' fun c4 hc4 => ?_
  cbv
  have hck4 : c4 = c := hc4.trans hc.symm
  subst hck4
  rw [lks]
  refine brT (mkLt hF (by ((try simp only [Int.ofNat_eq_natCast] at *); omega))) ?_
  try cbv
  refine lgetM (l := t.kids) (fun u => [.sl 1 (M rowS u.keys), .sl 1 (M rowS u.vals), .sl 3 (M Tr.row u.kids)]) (fun u => by simp only [Tr.row_eq, hM]) (hM _ _).symm hk' fun c5 hc5 => ?_
  cbv
  have hck5 : c5 = c4 := hc5.trans hc.symm
  subst hck5
  refine callI hC (by have hh := cE; (try simp only [hM] at hh); exact hh) ?_
  cbv
  have hkf := hk'
  have m1 : pLenOk (pLlen (M rowS t.keys)) = true := lenOkLen hF (by rw [← hM, List.length_map]; omega)
  have m2 : pLenOk (pLlen (M rowS t.vals)) = true := lenOkLen hF (by rw [← hM, List.length_map]; omega)
  have m3 : pLenOk (pLlen (M Tr.row t.kids)) = true := lenOkLen hF (by rw [← hM, List.length_map]; omega)
  have m4 : pLe 0 (Int.ofNat k') = true := zeroLe hF k'
  have m5 : pLt (Int.ofNat k') (pLlen (M rowS t.keys)) = true := mkLt hF (by rw [nD, ← hM, List.length_map]; ((try simp only [Int.ofNat_eq_natCast] at *); omega))
  have m6 : pLt (Int.ofNat k') (pLlen (M rowS t.vals)) = true := mkLt hF (by rw [nD, ← hM, List.length_map]; ((try simp only [Int.ofNat_eq_natCast] at *); omega))
  refine brT m1 (brT m2 (brT m4 (brT m5 ?_)))
  refine lgetM (l := t.keys) (fun u => [yS u]) (fun u => by simp only [rowS]) (hM _ _).symm (i := k') hp fun u2 hu2 => ?_
  cbv
  refine brT m4 (brT m6 ?_)
  refine lgetM (l := t.vals) (fun u => [yS u]) (fun u => by simp only [rowS]) (hM _ _).symm (i := k') hkv fun v2 hv2 => ?_
  cbv
  obtain ⟨xk, hxk⟩ : ∃ l, l = pLset (M rowS t.keys) (Int.ofNat k') [Y.sc (Value.string x)] := ⟨_, rfl⟩
  obtain ⟨xv, hxv⟩ : ∃ l, l = pLset (M rowS t.vals) (Int.ofNat k') [Y.sc (Value.string v)] := ⟨_, rfl⟩
  rw [← hxk, ← hxv]
  have n1 : pLenOk (pLlen xk) = true := lenOkLen hF (by rw [hxk, tD, List.length_set, ← hM, List.length_map]; omega)
  have n2 : pLenOk (pLlen xv) = true := lenOkLen hF (by rw [hxv, tD, List.length_set, ← hM, List.length_map]; omega)
  refine brT n1 (brT n2 (brT m3 ?_))
  refine lgetM (l := t.kids) (fun u => [.sl 1 (M rowS u.keys), .sl 1 (M rowS u.vals), .sl 3 (M Tr.row u.kids)]) (fun u => by simp only [Tr.row_eq, hM]) (hM _ _).symm (i := k') hkf fun c6 hc6 => ?_
  cbv
  have hck6 : c6 = c5 := hc6.trans hc5.symm
  subst hck6
  refine callI hC (by have hh := cR; (try simp only [hM, List.map_cons, List.map_nil] at hh); exact hh) ?_
  cbv
  have m7 : pLe 0 (Int.ofNat (k')) = true := zeroLe hF _
  have m8 : pLt (Int.ofNat (k')) (pLlen (M Tr.row t.kids)) = true := mkLt hF (by rw [lnt]; ((try simp only [Int.ofNat_eq_natCast] at *); omega))
  refine brT m7 (brT m8 ?_)
  refine lgetM (l := t.kids) (fun u => [.sl 1 (M rowS u.keys), .sl 1 (M rowS u.vals), .sl 3 (M Tr.row u.kids)]) (fun u => by simp only [Tr.row_eq, hM]) (hM _ _).symm (i := k') hkf fun c7 hc7 => ?_
  cbv
  refine hQ _ ?_
  rw [hrs, hxk, hxv]
  simp only [tD, ← hM]
  simp [resOf, Res.lo, RV.lo, AC.lo, List.map_set, Tr.row_eq r, rowS]
/-- The least key below its kid behind goes up. -/
theorem sDel_L (t r : Tr) (key x v : ByteArray) (h1 : t.keys.length ≤ 4) (h2 : t.vals.length = t.keys.length) (h3 : t.kids.length = t.keys.length + 1) (hh : t.has key = true) (g1 : (t.kid (t.plc key)).keys.length ≤ 1) (g2 : 1 < (t.kid (t.plc key + 1)).keys.length)
    (cE : CallOK Try.prog 77 [.agg [.y (.sl 1 ((t.kid (t.plc key + 1)).keys.map rowS)), .y (.sl 1 ((t.kid (t.plc key + 1)).vals.map rowS)), .y (.sl 3 ((t.kid (t.plc key + 1)).kids.map Tr.row))], aB false] (tupSS x v))
    (cR : CallOK Try.prog 61 [.agg [.y (.sl 1 ((t.kid (t.plc key + 1)).keys.map rowS)), .y (.sl 1 ((t.kid (t.plc key + 1)).vals.map rowS)), .y (.sl 3 ((t.kid (t.plc key + 1)).kids.map Tr.row))], aS x] ⟨.agg (r.row.map AC.y), []⟩) :
    CallOK Try.prog 61 [.agg [.y (.sl 1 (t.keys.map rowS)), .y (.sl 1 (t.vals.map rowS)), .y (.sl 3 (t.kids.map Tr.row))], aS key] ⟨.agg ((⟨t.keys.set (t.plc key) x, t.vals.set (t.plc key) v, t.kids.set (t.plc key + 1) r⟩ : Tr).row.map AC.y), []⟩ := by
  refine CallQ.plain (Q := fun r' => r'.lo = ⟨.agg ((⟨t.keys.set (t.plc key) x, t.vals.set (t.plc key) v, t.kids.set (t.plc key + 1) r⟩ : Tr).row.map AC.y), []⟩) ?_ fun _ h => h
  have hp : t.plc key < t.keys.length := by
    simp only [Tr.has, Bool.and_eq_true, decide_eq_true_eq] at hh
    exact hh.1
  have c0 := sPlace_ok t key (by rw [maxLen_is]; omega)
  rw [hh] at c0
  obtain ⟨k', hpp⟩ : ∃ p, p = t.plc key := ⟨_, rfl⟩
  rw [← hpp] at c0 g1 g2 cE cR hp ⊢
  obtain ⟨rs, hrs⟩ : ∃ rs, rs = (⟨t.keys.set k' x, t.vals.set k' v, t.kids.set (k' + 1) r⟩ : Tr).row.map AC.y := ⟨_, rfl⟩
  rw [← hrs]
  rw [Tr.row_eq] at hrs
  dsimp only at hrs
  have hk' : k' < t.kids.length := by omega
  have hkv : k' < t.vals.length := by omega
  have hkf : k' + 1 < t.kids.length := by omega
  rw [Tr.row_eq r] at cR
  obtain ⟨M, hM⟩ := mapEx
  try simp only [hM]
  refine goQ Try.func61 rfl rfl rfl rfl fun pAdd pSub pMul pQuo pRem pAnd pOr pXor pAndNot pShl pShr pNeg pCompl pConv pLt pLe pEq pSlt pSle pSeq pCat pCatOk pSlen pSsub pSat pIadd pIsub pBnot pBeq pImin pImax pLlen pLsub pLapp pLset pLcopy pLenOk pBytes pRep hF Ca hC Q1 hQ => ?_
  cbv
  refine callI hC (by have hh := c0; (try simp only [hM] at hh); exact hh) ?_
  cbv
  have zD : ∀ a b, pLe a b = decide (a ≤ b) := leD hF
  have gD : ∀ a b, pLt a b = decide (a < b) := ltD hF
  have nD : ∀ xs : List (List Y), pLlen xs = Int.ofNat xs.length := fun xs => llenIs hF xs
  have uD : ∀ xs a b, pLsub xs a b = (xs.drop a.toNat).take b.toNat := lsubDD hF
  have iD : ∀ a b, pIsub a b = a - b := isubDD hF
  have aD : ∀ a b, pIadd a b = a + b := iaddDD hF
  have kD : ∀ a, pLenOk a = decide (a ≤ 4294967296) := lenOkDD hF
  have pD : ∀ a b, pLapp a b = a ++ b := lappDD hF
  have tD : ∀ l i x, pLset l i x = l.set i.toNat x := lsetDD hF
  have lnt : pLlen (M Tr.row t.kids) = Int.ofNat t.kids.length := (llenIs hF _).trans (by rw [← hM, List.length_map]; rfl)
  rw [lnt]
  refine brF (mkNe hF (by ((try simp only [Int.ofNat_eq_natCast] at *); omega))) ?_
  try cbv
  have lks : ∀ c : Tr, pLlen (M rowS c.keys) = Int.ofNat c.keys.length := fun c => (llenIs hF _).trans (by rw [← hM, List.length_map]; rfl)
  have ea : pAdd .i64 (Int.ofNat k') 1 = Int.ofNat (k' + 1) := add1Is hF (by omega)
  refine lgetM (l := t.kids) (fun u => [.sl 1 (M rowS u.keys), .sl 1 (M rowS u.vals), .sl 3 (M Tr.row u.kids)]) (fun u => by simp only [Tr.row_eq, hM]) (hM _ _).symm hk' fun c hc => ?_
  cbv
  have hck : c = t.kid k' := hc.trans (getD_at hk').symm
  rw [← hck] at g1
  rw [lks]
  refine brF (mkNlt hF (by ((try simp only [Int.ofNat_eq_natCast] at *); omega))) ?_
  try cbv
  rw [ea]
  refine lgetM (l := t.kids) (fun u => [.sl 1 (M rowS u.keys), .sl 1 (M rowS u.vals), .sl 3 (M Tr.row u.kids)]) (fun u => by simp only [Tr.row_eq, hM]) (hM _ _).symm (i := k' + 1) hkf fun c1 hc1 => ?_
  cbv
  have hck1 : c1 = t.kid (k' + 1) := hc1.trans (getD_at hkf).symm
  rw [← hck1] at g2 cE cR
  rw [lks]
  refine brT (mkLt hF (by ((try simp only [Int.ofNat_eq_natCast] at *); omega))) ?_
  try cbv
  refine lgetM (l := t.kids) (fun u => [.sl 1 (M rowS u.keys), .sl 1 (M rowS u.vals), .sl 3 (M Tr.row u.kids)]) (fun u => by simp only [Tr.row_eq, hM]) (hM _ _).symm hk' fun c4 hc4 => ?_
  cbv
  have hck4 : c4 = c := hc4.trans hc.symm
  subst hck4
  rw [lks]
  refine brF (mkNlt hF (by ((try simp only [Int.ofNat_eq_natCast] at *); omega))) ?_
  try cbv
  try rw [ea]
  refine lgetM (l := t.kids) (fun u => [.sl 1 (M rowS u.keys), .sl 1 (M rowS u.vals), .sl 3 (M Tr.row u.kids)]) (fun u => by simp only [Tr.row_eq, hM]) (hM _ _).symm (i := k' + 1) hkf fun c5 hc5 => ?_
  cbv
  have hck5 : c5 = c1 := hc5.trans hc1.symm
  subst hck5
  refine callI hC (by have hh := cE; (try simp only [hM] at hh); exact hh) ?_
  cbv
  have m1 : pLenOk (pLlen (M rowS t.keys)) = true := lenOkLen hF (by rw [← hM, List.length_map]; omega)
  have m2 : pLenOk (pLlen (M rowS t.vals)) = true := lenOkLen hF (by rw [← hM, List.length_map]; omega)
  have m3 : pLenOk (pLlen (M Tr.row t.kids)) = true := lenOkLen hF (by rw [← hM, List.length_map]; omega)
  have m4 : pLe 0 (Int.ofNat k') = true := zeroLe hF k'
  have m5 : pLt (Int.ofNat k') (pLlen (M rowS t.keys)) = true := mkLt hF (by rw [nD, ← hM, List.length_map]; ((try simp only [Int.ofNat_eq_natCast] at *); omega))
  have m6 : pLt (Int.ofNat k') (pLlen (M rowS t.vals)) = true := mkLt hF (by rw [nD, ← hM, List.length_map]; ((try simp only [Int.ofNat_eq_natCast] at *); omega))
  refine brT m1 (brT m2 (brT m4 (brT m5 ?_)))
  refine lgetM (l := t.keys) (fun u => [yS u]) (fun u => by simp only [rowS]) (hM _ _).symm (i := k') hp fun u2 hu2 => ?_
  cbv
  refine brT m4 (brT m6 ?_)
  refine lgetM (l := t.vals) (fun u => [yS u]) (fun u => by simp only [rowS]) (hM _ _).symm (i := k') hkv fun v2 hv2 => ?_
  cbv
  obtain ⟨xk, hxk⟩ : ∃ l, l = pLset (M rowS t.keys) (Int.ofNat k') [Y.sc (Value.string x)] := ⟨_, rfl⟩
  obtain ⟨xv, hxv⟩ : ∃ l, l = pLset (M rowS t.vals) (Int.ofNat k') [Y.sc (Value.string v)] := ⟨_, rfl⟩
  rw [← hxk, ← hxv]
  have n1 : pLenOk (pLlen xk) = true := lenOkLen hF (by rw [hxk, tD, List.length_set, ← hM, List.length_map]; omega)
  have n2 : pLenOk (pLlen xv) = true := lenOkLen hF (by rw [hxv, tD, List.length_set, ← hM, List.length_map]; omega)
  refine brT n1 (brT n2 (brT m3 ?_))
  refine lgetM (l := t.kids) (fun u => [.sl 1 (M rowS u.keys), .sl 1 (M rowS u.vals), .sl 3 (M Tr.row u.kids)]) (fun u => by simp only [Tr.row_eq, hM]) (hM _ _).symm (i := k' + 1) hkf fun c6 hc6 => ?_
  cbv
  have hck6 : c6 = c5 := hc6.trans hc5.symm
  subst hck6
  refine callI hC (by have hh := cR; (try simp only [hM, List.map_cons, List.map_nil] at hh); exact hh) ?_
  cbv
  have m7 : pLe 0 (Int.ofNat (k' + 1)) = true := zeroLe hF _
  have m8 : pLt (Int.ofNat (k' + 1)) (pLlen (M Tr.row t.kids)) = true := mkLt hF (by rw [lnt]; ((try simp only [Int.ofNat_eq_natCast] at *); omega))
  refine brT m7 (brT m8 ?_)
  refine lgetM (l := t.kids) (fun u => [.sl 1 (M rowS u.keys), .sl 1 (M rowS u.vals), .sl 3 (M Tr.row u.kids)]) (fun u => by simp only [Tr.row_eq, hM]) (hM _ _).symm (i := k' + 1) hkf fun c7 hc7 => ?_
  cbv
  refine hQ _ ?_
  rw [hrs, hxk, hxv]
  simp only [tD, ← hM]
  simp [resOf, Res.lo, RV.lo, AC.lo, List.map_set, Tr.row_eq r, rowS]
end Go.Proofs.Ythaelohccopgjaa
