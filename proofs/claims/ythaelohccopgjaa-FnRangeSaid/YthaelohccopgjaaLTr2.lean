/- Functions of the program, each with what it returns, run by the evaluator; the conditions stand in the theorems. -/
import Derived.Test.YthaelohccopgjaaLTr1
namespace Go.Proofs.Ythaelohccopgjaa
open Go Go.Proofs.YthaelohccopgjaaW Go.Proofs
set_option linter.unusedVariables false
set_option linter.unusedSimpArgs false
set_option maxRecDepth 100000
set_option maxHeartbeats 8000000
theorem deep_ok (t : Tr) : CallOK Try.prog 37 [.agg [.y (.sl 1 (t.keys.map rowS)), .y (.sl 1 (t.vals.map rowS)), .y (.sl 3 (t.kids.map Tr.row))]] (N (Int.ofNat (deepT 13 t))) := by
  obtain ⟨q, hq⟩ : ∃ q, q = deepT 13 t := ⟨_, rfl⟩
  rw [← hq]
  obtain ⟨M, hM⟩ := mapEx
  try simp only [hM]
  refine go Try.func37 rfl rfl rfl rfl fun pAdd pSub pMul pQuo pRem pAnd pOr pXor pAndNot pShl pShr pNeg pCompl pConv pLt pLe pEq pSlt pSle pSeq pCat pCatOk pSlen pSsub pSat pIadd pIsub pBnot pBeq pImin pImax pLlen pLsub pLapp pLset pLcopy pLenOk pBytes pRep hF Ca hC r hr => ?_
  cbv
  refine loop_u (α := Nat × Tr) (fun a st => (st.n 3 (Int.ofNat a.1)).ob 1000 (.bx [.y (.sl 1 (M rowS a.2.keys)), .y (.sl 1 (M rowS a.2.vals)), .y (.sl 3 (M Tr.row a.2.kids))]))
    (fun a => 1 ≤ a.1 ∧ a.1 ≤ 13 ∧ q + 1 = a.1 + deepT (14 - a.1) a.2) (fun a => 13 - a.1) (1, t) rfl ⟨by omega, by omega, by rw [hq]; show _ = 1 + deepT 13 t; omega⟩ (fun K' hK I a hi ih => ?_)
  obtain ⟨n, c⟩ := a
  obtain ⟨h1, h2, h3⟩ := hi
  dsimp only at h1 h2 h3
  have ln : ∀ {α : Type} (f : α → List Y) (l : List α), pLlen (M f l) = Int.ofNat l.length := fun f l => (llenIs hF (M f l)).trans (by rw [← hM, List.length_map]; rfl)
  cbv
  try simp only [ln]
  refine brkI (fun h => ?_) (fun h => ?_) <;> try cbv
  · have h := ltT hF h
    have hs : 0 < c.kids.length := by ((try simp only [Int.ofNat_eq_natCast] at *); omega)
    refine brkI (fun h' => ?_) (fun h' => ?_) <;> try cbv
    · have h' := ltT hF h'
      have h' : n < 13 := by ((try simp only [Int.ofNat_eq_natCast] at *); omega)
      refine lgetM (i := 0) (fun u => [.sl 1 (M rowS u.keys), .sl 1 (M rowS u.vals), .sl 3 (M Tr.row u.kids)]) (fun u => by simp only [Tr.row_eq, hM]) (hM _ _).symm hs fun u hu => ?_
      cbv
      have e1 : pAdd .i64 (Int.ofNat n) 1 = Int.ofNat (n + 1) := add1Is hF (by omega)
      conv => arg 1; cbv
      rw [e1]
      refine ih (n + 1, u) _ ⟨by dsimp only; omega, by dsimp only; omega, ?_⟩ (by dsimp only; omega) rfl
      dsimp only
      have e : 14 - n = (13 - n) + 1 := by omega
      rw [e, deepT, if_neg (by omega), Tr.kid, getD_of hs hu] at h3
      rw [show 14 - (n + 1) = 13 - n from by omega]; omega
    · have h' := ltF hF h'
      have h' : n = 13 := by ((try simp only [Int.ofNat_eq_natCast] at *); omega)
      subst h'
      refine hK _ _ ?_
      cbv
      refine retN hr ?_
      rw [show 14 - 13 = 0 + 1 from rfl, deepT, if_neg (by omega), deepT] at h3
      ((try simp only [Int.ofNat_eq_natCast] at *); omega)
  · have h := ltF hF h
    have hs : c.kids.length = 0 := by ((try simp only [Int.ofNat_eq_natCast] at *); omega)
    refine hK _ _ ?_
    cbv
    refine retN hr ?_
    obtain ⟨m, hm⟩ : ∃ m, 14 - n = m + 1 := ⟨13 - n, by omega⟩
    rw [hm, deepT, if_pos hs] at h3
    ((try simp only [Int.ofNat_eq_natCast] at *); omega)
end Go.Proofs.Ythaelohccopgjaa
