/- Functions of the program, each with what it returns, run by the evaluator; the conditions stand in the theorems. -/
import Derived.Test.YthaelohccopgjaaLTrY
namespace Go.Proofs.Ythaelohccopgjaa
open Go Go.Proofs.YthaelohccopgjaaW Go.Proofs
set_option linter.unusedVariables false
set_option linter.unusedSimpArgs false
set_option maxRecDepth 100000
set_option maxHeartbeats 8000000
theorem sCopy_own (t : Tr) (hb : Tr.Bd 1048576 t) :
    CallOK Try.prog 56 [.agg [.y (.sl 1 (t.keys.map rowS)), .y (.sl 1 (t.vals.map rowS)), .y (.sl 3 (t.kids.map Tr.row))]] ⟨.agg [.own 1 (t.keys.map rowS), .own 1 (t.vals.map rowS), .own 3 (t.kids.map Tr.row)], []⟩ := by
  obtain ⟨_, h1, _, h2, _, h3, hbk⟩ := hb
  have ih : ∀ c ∈ t.kids, CallOK Try.prog 56 [.agg [.y (.sl 1 (c.keys.map rowS)), .y (.sl 1 (c.vals.map rowS)), .y (.sl 3 (c.kids.map Tr.row))]] ⟨.agg (c.row.map AC.y), []⟩ := fun c hc => sCopy_ok c (hbk c hc)
  clear hbk
  obtain ⟨rr, hrr⟩ : ∃ r : Res, r = ⟨.agg [.own 1 (t.keys.map rowS), .own 1 (t.vals.map rowS), .own 3 (t.kids.map Tr.row)], []⟩ := ⟨_, rfl⟩
  rw [← hrr]
  obtain ⟨n, hn⟩ : ∃ n, n = t.kids.length := ⟨_, rfl⟩
  have ih' : ∀ c ∈ t.kids, CallOK Try.prog 56 [.agg [.y (.sl 1 (c.keys.map rowS)), .y (.sl 1 (c.vals.map rowS)), .y (.sl 3 (c.kids.map Tr.row))]] ⟨.agg [.y (.sl 1 (c.keys.map rowS)), .y (.sl 1 (c.vals.map rowS)), .y (.sl 3 (c.kids.map Tr.row))], []⟩ := fun c hc => by
    have := ih c hc
    rw [Tr.row_eq] at this
    exact this
  clear ih
  obtain ⟨M, hM⟩ := mapEx
  try simp only [hM]
  refine go Try.func56 rfl rfl rfl rfl fun pAdd pSub pMul pQuo pRem pAnd pOr pXor pAndNot pShl pShr pNeg pCompl pConv pLt pLe pEq pSlt pSle pSeq pCat pCatOk pSlen pSsub pSat pIadd pIsub pBnot pBeq pImin pImax pLlen pLsub pLapp pLset pLcopy pLenOk pBytes pRep hF Ca hC r hr => ?_
  cbv
  have zD : ∀ a b, pLe a b = decide (a ≤ b) := leD hF
  have gD : ∀ a b, pLt a b = decide (a < b) := ltD hF
  have nD : ∀ xs : List (List Y), pLlen xs = Int.ofNat xs.length := fun xs => llenIs hF xs
  have uD : ∀ xs a b, pLsub xs a b = (xs.drop a.toNat).take b.toNat := lsubDD hF
  have iD : ∀ a b, pIsub a b = a - b := isubDD hF
  have aD : ∀ a b, pIadd a b = a + b := iaddDD hF
  have kD : ∀ a, pLenOk a = decide (a ≤ 4294967296) := lenOkDD hF
  have pD : ∀ a b, pLapp a b = a ++ b := lappDD hF
  have tD : ∀ l i x, pLset l i x = l.set i.toNat x := lsetDD hF
  have ln : pLlen (M Tr.row t.kids) = Int.ofNat t.kids.length := (llenIs hF _).trans (by rw [← hM, List.length_map]; rfl)
  have k1 : pLenOk (pLlen (M rowS t.keys)) = true := lenOkLen hF (by rw [← hM, List.length_map]; omega)
  have k2 : pLenOk (pLlen (M rowS t.vals)) = true := lenOkLen hF (by rw [← hM, List.length_map]; omega)
  refine brT k1 (brT k2 ?_)
  refine loop_u (α := Nat × List (List Y)) (fun a st => (st.n 4 (Int.ofNat a.1)).ob 3003 (.ar 3 a.2))
    (fun a => a.1 ≤ n ∧ a.2 = (t.kids.take a.1).map Tr.row) (fun a => n - a.1) (0, []) rfl ⟨Nat.zero_le _, by simp⟩ (fun K' hK I a hi ih => ?_)
  obtain ⟨i, zs⟩ := a
  obtain ⟨hi, hz⟩ := hi
  dsimp only at hi hz
  cbv
  rw [ln]
  refine brkI (fun h => ?_) (fun h => ?_) <;> try cbv
  · have h := ltT hF h
    have hs : i < t.kids.length := by ((try simp only [Int.ofNat_eq_natCast] at *); omega)
    refine lgetM (l := t.kids) (fun u => [.sl 1 (M rowS u.keys), .sl 1 (M rowS u.vals), .sl 3 (M Tr.row u.kids)]) (fun u => by simp only [Tr.row_eq, hM]) (hM _ _).symm hs fun c hc => ?_
    cbv
    have cc := ih' c (hc ▸ List.getElem_mem hs)
    refine callI hC (by have hh := cc; (try simp only [hM] at hh); exact hh) ?_
    cbv
    have lz : zs.length = i := by rw [hz]; simp; omega
    have k3 : pLenOk (pIadd (pLlen zs) (pLlen [[Y.sl 1 (M rowS c.keys), Y.sl 1 (M rowS c.vals), Y.sl 3 (M Tr.row c.kids)]])) = true := lenOkIs hF (by rw [aD, nD, nD, lz]; simp; omega)
    refine brT k3 ?_
    have e2 : pAdd .i64 (Int.ofNat i) 1 = Int.ofNat (i + 1) := add1Is hF (by omega)
    have e3 : pLapp zs [[Y.sl 1 (M rowS c.keys), Y.sl 1 (M rowS c.vals), Y.sl 3 (M Tr.row c.kids)]] = (t.kids.take (i + 1)).map Tr.row := by
      rw [pD, hz, List.take_add_one, List.map_append, List.getElem?_eq_getElem hs, ← hc]
      simp only [← hM]
      simp [Tr.row_eq c]
    obtain ⟨ys, hys⟩ : ∃ ys, ys = pLapp zs [[Y.sl 1 (M rowS c.keys), Y.sl 1 (M rowS c.vals), Y.sl 3 (M Tr.row c.kids)]] := ⟨_, rfl⟩
    rw [← hys] at e3 ⊢
    conv => arg 1; cbv
    rw [e2]
    exact ih (i + 1, ys) _ ⟨by omega, e3⟩ (by dsimp only; omega) rfl
  · have h := ltF hF h
    have hs : i = t.kids.length := by ((try simp only [Int.ofNat_eq_natCast] at *); omega)
    refine hK _ _ ?_
    cbv
    rw [hr, hrr, hz, hs, List.take_length]
    simp only [hM]
end Go.Proofs.Ythaelohccopgjaa
