/- Functions of the program, each with what it returns, run by the evaluator; the conditions stand in the theorems. -/
import Derived.Test.YthaelohccopgjaaLTrX
namespace Go.Proofs.Ythaelohccopgjaa
open Go Go.Proofs.YthaelohccopgjaaW Go.Proofs
set_option linter.unusedVariables false
set_option linter.unusedSimpArgs false
set_option maxRecDepth 100000
set_option maxHeartbeats 8000000
theorem sSet_has (t : Tr) (key val : ByteArray) (h1 : t.keys.length ≤ 4) (h2 : t.vals.length = t.keys.length) (h3 : t.kids = [] ∨ t.kids.length = t.keys.length + 1) (hh : t.has key = true) :
    CallOK Try.prog 57 [.agg [.y (.sl 1 (t.keys.map rowS)), .y (.sl 1 (t.vals.map rowS)), .y (.sl 3 (t.kids.map Tr.row))], aS key, aS val] ⟨.agg ((⟨t.keys, t.vals.set (t.plc key) val, t.kids⟩ : Tr).row.map AC.y), []⟩ := by
  refine CallQ.plain (Q := fun r' => r'.lo = ⟨.agg ((⟨t.keys, t.vals.set (t.plc key) val, t.kids⟩ : Tr).row.map AC.y), []⟩) ?_ fun _ h => h
  have hp : t.plc key < t.keys.length := by
    simp only [Tr.has, Bool.and_eq_true, decide_eq_true_eq] at hh
    exact hh.1
  have c0 := sPlace_ok t key (by rw [maxLen_is]; omega)
  rw [hh] at c0
  have hkl : t.kids.length ≤ 5 := by rcases h3 with h | h
                                     · rw [h]; simp
                                     · omega
  obtain ⟨rs, hrs⟩ : ∃ rs, rs = (⟨t.keys, t.vals.set (t.plc key) val, t.kids⟩ : Tr).row.map AC.y := ⟨_, rfl⟩
  rw [← hrs]
  rw [Tr.row_eq] at hrs
  dsimp only at hrs
  obtain ⟨p, hpp⟩ : ∃ p, p = t.plc key := ⟨_, rfl⟩
  simp only [← hpp] at c0 hrs hp
  have hpv : p < t.vals.length := by omega
  rw [List.map_set] at hrs
  obtain ⟨M, hM⟩ := mapEx
  try simp only [hM]
  refine goQ Try.func57 rfl rfl rfl rfl fun pAdd pSub pMul pQuo pRem pAnd pOr pXor pAndNot pShl pShr pNeg pCompl pConv pLt pLe pEq pSlt pSle pSeq pCat pCatOk pSlen pSsub pSat pIadd pIsub pBnot pBeq pImin pImax pLlen pLsub pLapp pLset pLcopy pLenOk pBytes pRep hF Ca hC Q1 hQ => ?_
  cbv
  refine callI hC (by have hh := c0; (try simp only [hM] at hh); exact hh) ?_
  cbv
  have zD : ∀ a b, pLe a b = decide (a ≤ b) := leD hF
  have gD : ∀ a b, pLt a b = decide (a < b) := ltD hF
  have nD : ∀ xs : List (List Y), pLlen xs = Int.ofNat xs.length := fun xs => llenIs hF xs
  have uD : ∀ xs a b, pLsub xs a b = (xs.drop a.toNat).take b.toNat := lsubDD hF
  have iD : ∀ a b, pIsub a b = a - b := isubDD hF
  have aD : ∀ a b, pIadd a b = a + b := iaddDD hF
  have kD : ∀ a, pLenOk a = decide (a ≤ 4294967296) := lenOkDD hF
  have pD : ∀ a b, pLapp a b = a ++ b := lappDD hF
  have tD : ∀ l i x, pLset l i x = l.set i.toNat x := lsetDD hF
  have k1 : pLenOk (pLlen (M rowS t.keys)) = true := lenOkLen hF (by rw [← hM, List.length_map]; omega)
  have k2 : pLenOk (pLlen (M rowS t.vals)) = true := lenOkLen hF (by rw [← hM, List.length_map]; omega)
  have k3 : pLenOk (pLlen (M Tr.row t.kids)) = true := lenOkLen hF (by rw [← hM, List.length_map]; omega)
  refine brT k1 (brT k2 (brT k3 ?_))
  have lv : pLlen (M rowS t.vals) = Int.ofNat t.vals.length := (llenIs hF _).trans (by rw [← hM, List.length_map]; rfl)
  have k4 : pLe 0 (Int.ofNat p) = true := zeroLe hF p
  have k5 : pLt (Int.ofNat p) (pLlen (M rowS t.vals)) = true := mkLt hF (by rw [lv]; ((try simp only [Int.ofNat_eq_natCast] at *); omega))
  refine brT k4 (brT k5 ?_)
  refine lgetM (l := t.vals) (fun u => [yS u]) (fun u => by simp only [rowS]) (hM _ _).symm hpv fun u hu => ?_
  cbv
  refine hQ _ ?_
  rw [hrs, tD]
  simp only [← hM]
  simp [resOf, Res.lo, RV.lo, AC.lo]
  rfl
theorem sSet_kid (t r : Tr) (key val : ByteArray) (h1 : t.keys.length ≤ 4) (h2 : t.vals.length = t.keys.length) (h3 : t.kids.length = t.keys.length + 1) (hh : t.has key = false)
    (c1 : CallOK Try.prog 57 [.agg [.y (.sl 1 ((t.kid (t.plc key)).keys.map rowS)), .y (.sl 1 ((t.kid (t.plc key)).vals.map rowS)), .y (.sl 3 ((t.kid (t.plc key)).kids.map Tr.row))], aS key, aS val] ⟨.agg (r.row.map AC.y), []⟩) :
    CallOK Try.prog 57 [.agg [.y (.sl 1 (t.keys.map rowS)), .y (.sl 1 (t.vals.map rowS)), .y (.sl 3 (t.kids.map Tr.row))], aS key, aS val] ⟨.agg ((⟨t.keys, t.vals, t.kids.set (t.plc key) r⟩ : Tr).row.map AC.y), []⟩ := by
  refine CallQ.plain (Q := fun r' => r'.lo = ⟨.agg ((⟨t.keys, t.vals, t.kids.set (t.plc key) r⟩ : Tr).row.map AC.y), []⟩) ?_ fun _ h => h
  have hp := t.plc_le key
  have c0 := sPlace_ok t key (by rw [maxLen_is]; omega)
  rw [hh] at c0
  obtain ⟨rs, hrs⟩ : ∃ rs, rs = (⟨t.keys, t.vals, t.kids.set (t.plc key) r⟩ : Tr).row.map AC.y := ⟨_, rfl⟩
  rw [← hrs]
  rw [Tr.row_eq] at hrs
  dsimp only at hrs
  have hkp : t.plc key < t.kids.length := by omega
  obtain ⟨kid, hkid⟩ : ∃ c, c = t.kid (t.plc key) := ⟨_, rfl⟩
  have hkid' : kid = t.kids[t.plc key] := by rw [hkid, Tr.kid, getD_at hkp]
  rw [← hkid] at c1
  obtain ⟨p, hpp⟩ : ∃ p, p = t.plc key := ⟨_, rfl⟩
  simp only [← hpp] at c0 hrs hkid' hkp
  rw [Tr.row_eq r] at c1
  rw [List.map_set, Tr.row_eq r] at hrs
  obtain ⟨M, hM⟩ := mapEx
  try simp only [hM]
  refine goQ Try.func57 rfl rfl rfl rfl fun pAdd pSub pMul pQuo pRem pAnd pOr pXor pAndNot pShl pShr pNeg pCompl pConv pLt pLe pEq pSlt pSle pSeq pCat pCatOk pSlen pSsub pSat pIadd pIsub pBnot pBeq pImin pImax pLlen pLsub pLapp pLset pLcopy pLenOk pBytes pRep hF Ca hC Q1 hQ => ?_
  cbv
  refine callI hC (by have hh := c0; (try simp only [hM] at hh); exact hh) ?_
  cbv
  have zD : ∀ a b, pLe a b = decide (a ≤ b) := leD hF
  have gD : ∀ a b, pLt a b = decide (a < b) := ltD hF
  have nD : ∀ xs : List (List Y), pLlen xs = Int.ofNat xs.length := fun xs => llenIs hF xs
  have uD : ∀ xs a b, pLsub xs a b = (xs.drop a.toNat).take b.toNat := lsubDD hF
  have iD : ∀ a b, pIsub a b = a - b := isubDD hF
  have aD : ∀ a b, pIadd a b = a + b := iaddDD hF
  have kD : ∀ a, pLenOk a = decide (a ≤ 4294967296) := lenOkDD hF
  have pD : ∀ a b, pLapp a b = a ++ b := lappDD hF
  have tD : ∀ l i x, pLset l i x = l.set i.toNat x := lsetDD hF
  have ln : pLlen (M Tr.row t.kids) = Int.ofNat t.kids.length := (llenIs hF _).trans (by rw [← hM, List.length_map]; rfl)
  have k1 : pLenOk (pLlen (M rowS t.keys)) = true := lenOkLen hF (by rw [← hM, List.length_map]; omega)
  have k2 : pLenOk (pLlen (M rowS t.vals)) = true := lenOkLen hF (by rw [← hM, List.length_map]; omega)
  have k3 : pLenOk (pLlen (M Tr.row t.kids)) = true := lenOkLen hF (by rw [← hM, List.length_map]; omega)
  refine brT k1 (brT k2 (brT k3 ?_))
  refine lgetM (l := t.kids) (fun u => [.sl 1 (M rowS u.keys), .sl 1 (M rowS u.vals), .sl 3 (M Tr.row u.kids)]) (fun u => by simp only [Tr.row_eq, hM]) (hM _ _).symm hkp fun c' hc' => ?_
  cbv
  have hck' : c' = kid := hc'.trans hkid'.symm
  subst hck'
  refine callI hC (by have hh := c1; (try simp only [hM] at hh); exact hh) ?_
  cbv
  have k4 : pLe 0 (Int.ofNat p) = true := zeroLe hF p
  have k5 : pLt (Int.ofNat p) (pLlen (M Tr.row t.kids)) = true := mkLt hF (by rw [ln]; ((try simp only [Int.ofNat_eq_natCast] at *); omega))
  refine brT k4 (brT k5 ?_)
  refine lgetM (l := t.kids) (fun u => [.sl 1 (M rowS u.keys), .sl 1 (M rowS u.vals), .sl 3 (M Tr.row u.kids)]) (fun u => by simp only [Tr.row_eq, hM]) (hM _ _).symm hkp fun c2 hc2 => ?_
  cbv
  refine hQ _ ?_
  rw [hrs, tD]
  simp only [← hM]
  simp [resOf, Res.lo, RV.lo, AC.lo]
theorem sSet_ok : ∀ (d lo : Nat) (t : Tr) (key val : ByteArray), Nd lo d t → Srt (flat d t) → HasKey key (flat d t) → CallOK Try.prog 57 [.agg [.y (.sl 1 (t.keys.map rowS)), .y (.sl 1 (t.vals.map rowS)), .y (.sl 3 (t.kids.map Tr.row))], aS key, aS val] ⟨.agg ((setN d t key val).row.map AC.y), []⟩
  | 0, _, _, _, _, h, _, _ => h.elim
  | d + 1, lo, t, key, val, h, hs, hn => by
    obtain ⟨l1, l2, l3⟩ := h.lens
    rw [setN]
    by_cases hh : t.has key = true
    · rw [if_pos hh]
      exact sSet_has t key val (by omega) l2 l3 hh
    rw [if_neg hh]
    have hh : t.has key = false := by simpa using hh
    cases d with
    | zero =>
      obtain ⟨hk, -⟩ := h.2.2.2.resolve_right (fun h => h.2.1 rfl)
      exact absurd hn (not_has_leaf h hk hs hh)
    | succ d =>
      obtain ⟨X, Y, V, W, A, c, B, ha⟩ := h.at (t.plc_le key)
      have hb := (ha.below hs rfl hh).1 hn
      have hs' := hs
      rw [ha.fl] at hs'
      have s2 := (srt_app.1 (srt_app.1 hs').2.1).1
      have l3 := l3.resolve_left (by rw [ha.eq]; simp)
      refine sSet_kid t _ key val (by omega) l2 l3 hh ?_
      rw [ha.kid]
      exact sSet_ok (d + 1) 1 c key val ha.nc s2 hb
theorem sCopy_of (t : Tr) (h1 : t.keys.length ≤ 1048576) (h2 : t.vals.length ≤ 1048576) (h3 : t.kids.length ≤ 1048576)
    (ih : ∀ c ∈ t.kids, CallOK Try.prog 56 [.agg [.y (.sl 1 (c.keys.map rowS)), .y (.sl 1 (c.vals.map rowS)), .y (.sl 3 (c.kids.map Tr.row))]] ⟨.agg (c.row.map AC.y), []⟩) :
    CallOK Try.prog 56 [.agg [.y (.sl 1 (t.keys.map rowS)), .y (.sl 1 (t.vals.map rowS)), .y (.sl 3 (t.kids.map Tr.row))]] ⟨.agg (t.row.map AC.y), []⟩ := by
  refine CallQ.plain (Q := fun r' => r'.lo = ⟨.agg (t.row.map AC.y), []⟩) ?_ fun _ h => h
  obtain ⟨rs, hrs⟩ : ∃ rs, rs = t.row.map AC.y := ⟨_, rfl⟩
  rw [← hrs]
  rw [Tr.row_eq] at hrs
  obtain ⟨n, hn⟩ : ∃ n, n = t.kids.length := ⟨_, rfl⟩
  have ih' : ∀ c ∈ t.kids, CallOK Try.prog 56 [.agg [.y (.sl 1 (c.keys.map rowS)), .y (.sl 1 (c.vals.map rowS)), .y (.sl 3 (c.kids.map Tr.row))]] ⟨.agg [.y (.sl 1 (c.keys.map rowS)), .y (.sl 1 (c.vals.map rowS)), .y (.sl 3 (c.kids.map Tr.row))], []⟩ := fun c hc => by
    have := ih c hc
    rw [Tr.row_eq] at this
    exact this
  clear ih
  obtain ⟨M, hM⟩ := mapEx
  try simp only [hM]
  refine goQ Try.func56 rfl rfl rfl rfl fun pAdd pSub pMul pQuo pRem pAnd pOr pXor pAndNot pShl pShr pNeg pCompl pConv pLt pLe pEq pSlt pSle pSeq pCat pCatOk pSlen pSsub pSat pIadd pIsub pBnot pBeq pImin pImax pLlen pLsub pLapp pLset pLcopy pLenOk pBytes pRep hF Ca hC Q1 hQ => ?_
  cbv
  have zD : ∀ a b, pLe a b = decide (a ≤ b) := leD hF
  have gD : ∀ a b, pLt a b = decide (a < b) := ltD hF
  have nD : ∀ xs : List (List Y), pLlen xs = Int.ofNat xs.length := fun xs => llenIs hF xs
  have uD : ∀ xs a b, pLsub xs a b = (xs.drop a.toNat).take b.toNat := lsubDD hF
  have iD : ∀ a b, pIsub a b = a - b := isubDD hF
  have aD : ∀ a b, pIadd a b = a + b := iaddDD hF
  have kD : ∀ a, pLenOk a = decide (a ≤ 4294967296) := lenOkDD hF
  have pD : ∀ a b, pLapp a b = a ++ b := lappDD hF
  have tD : ∀ l i x, pLset l i x = l.set i.toNat x := lsetDD hF
  have ln : pLlen (M Tr.row t.kids) = Int.ofNat t.kids.length := (llenIs hF _).trans (by rw [← hM, List.length_map]; rfl)
  have k1 : pLenOk (pLlen (M rowS t.keys)) = true := lenOkLen hF (by rw [← hM, List.length_map]; omega)
  have k2 : pLenOk (pLlen (M rowS t.vals)) = true := lenOkLen hF (by rw [← hM, List.length_map]; omega)
  refine brT k1 (brT k2 ?_)
  refine loop_u (α := Nat × List (List Y)) (fun a st => (st.n 4 (Int.ofNat a.1)).ob 3003 (.ar 3 a.2))
    (fun a => a.1 ≤ n ∧ a.2 = (t.kids.take a.1).map Tr.row) (fun a => n - a.1) (0, []) rfl ⟨Nat.zero_le _, by simp⟩ (fun K' hK I a hi ih => ?_)
  obtain ⟨i, zs⟩ := a
  obtain ⟨hi, hz⟩ := hi
  dsimp only at hi hz
  cbv
  rw [ln]
  refine brkI (fun h => ?_) (fun h => ?_) <;> try cbv
  · have h := ltT hF h
    have hs : i < t.kids.length := by ((try simp only [Int.ofNat_eq_natCast] at *); omega)
    refine lgetM (l := t.kids) (fun u => [.sl 1 (M rowS u.keys), .sl 1 (M rowS u.vals), .sl 3 (M Tr.row u.kids)]) (fun u => by simp only [Tr.row_eq, hM]) (hM _ _).symm hs fun c hc => ?_
    cbv
    have cc := ih' c (hc ▸ List.getElem_mem hs)
    refine callI hC (by have hh := cc; (try simp only [hM] at hh); exact hh) ?_
    cbv
    have lz : zs.length = i := by rw [hz]; simp; omega
    have k3 : pLenOk (pIadd (pLlen zs) (pLlen [[Y.sl 1 (M rowS c.keys), Y.sl 1 (M rowS c.vals), Y.sl 3 (M Tr.row c.kids)]])) = true := lenOkIs hF (by rw [aD, nD, nD, lz]; simp; omega)
    refine brT k3 ?_
    have e2 : pAdd .i64 (Int.ofNat i) 1 = Int.ofNat (i + 1) := add1Is hF (by omega)
    have e3 : pLapp zs [[Y.sl 1 (M rowS c.keys), Y.sl 1 (M rowS c.vals), Y.sl 3 (M Tr.row c.kids)]] = (t.kids.take (i + 1)).map Tr.row := by
      rw [pD, hz, List.take_add_one, List.map_append, List.getElem?_eq_getElem hs, ← hc]
      simp only [← hM]
      simp [Tr.row_eq c]
    obtain ⟨ys, hys⟩ : ∃ ys, ys = pLapp zs [[Y.sl 1 (M rowS c.keys), Y.sl 1 (M rowS c.vals), Y.sl 3 (M Tr.row c.kids)]] := ⟨_, rfl⟩
    rw [← hys] at e3 ⊢
    conv => arg 1; cbv
    rw [e2]
    exact ih (i + 1, ys) _ ⟨by omega, e3⟩ (by dsimp only; omega) rfl
  · have h := ltF hF h
    have hs : i = t.kids.length := by ((try simp only [Int.ofNat_eq_natCast] at *); omega)
    refine hK _ _ ?_
    cbv
    refine hQ _ ?_
    rw [hrs, hz, hs, List.take_length]
    simp only [← hM]
    simp [resOf, Res.lo, RV.lo, AC.lo]
theorem sCopy_ok (t : Tr) (hb : Tr.Bd 1048576 t) : CallOK Try.prog 56 [.agg [.y (.sl 1 (t.keys.map rowS)), .y (.sl 1 (t.vals.map rowS)), .y (.sl 3 (t.kids.map Tr.row))]] ⟨.agg (t.row.map AC.y), []⟩ := by
  induction hb with
  | mk t h1 h2 h3 h4 h5 h6 ih => exact sCopy_of t h1 h3 h5 ih
end Go.Proofs.Ythaelohccopgjaa
