/- Functions of the program, each with what it returns, run by the evaluator; the conditions stand in the theorems. -/
import Derived.Test.YthaelohccopgjaaLTrM
import Derived.Test.YthaelohccopgjaaLTrE
namespace Go.Proofs.Ythaelohccopgjaa
open Go Go.Proofs.YthaelohccopgjaaW Go.Proofs
set_option linter.unusedVariables false
set_option linter.unusedSimpArgs false
set_option maxRecDepth 100000
set_option maxHeartbeats 8000000
abbrev tupSS (a b : ByteArray) : Res := ⟨.tup [(false, [.y (yS a)]), (false, [.y (yS b)])], []⟩
theorem sEndG_ok (d : Nat) (t : Tr) (h : Nd 1 d t) : CallOK Try.prog 77 [.agg [.y (.sl 1 (t.keys.map rowS)), .y (.sl 1 (t.vals.map rowS)), .y (.sl 3 (t.kids.map Tr.row))], aB true] (tupSS (endG d t).1 (endG d t).2) := by
  obtain ⟨E, hE⟩ : ∃ E, E = endG d t := ⟨_, rfl⟩
  rw [← hE]
  obtain ⟨rr, hrr⟩ : ∃ r : Res, r = tupSS E.1 E.2 := ⟨_, rfl⟩
  rw [← hrr]
  obtain ⟨M, hM⟩ := mapEx
  try simp only [hM]
  refine go Try.func77 rfl rfl rfl rfl fun pAdd pSub pMul pQuo pRem pAnd pOr pXor pAndNot pShl pShr pNeg pCompl pConv pLt pLe pEq pSlt pSle pSeq pCat pCatOk pSlen pSsub pSat pIadd pIsub pBnot pBeq pImin pImax pLlen pLsub pLapp pLset pLcopy pLenOk pBytes pRep hF Ca hC r hr => ?_
  cbv
  have zD : ∀ a b, pLe a b = decide (a ≤ b) := leD hF
  have gD : ∀ a b, pLt a b = decide (a < b) := ltD hF
  have nD : ∀ xs : List (List Y), pLlen xs = Int.ofNat xs.length := fun xs => llenIs hF xs
  have uD : ∀ xs a b, pLsub xs a b = (xs.drop a.toNat).take b.toNat := lsubDD hF
  have iD : ∀ a b, pIsub a b = a - b := isubDD hF
  have aD : ∀ a b, pIadd a b = a + b := iaddDD hF
  have kD : ∀ a, pLenOk a = decide (a ≤ 4294967296) := lenOkDD hF
  have pD : ∀ a b, pLapp a b = a ++ b := lappDD hF
  have tD : ∀ l i x, pLset l i x = l.set i.toNat x := lsetDD hF
  refine loop_u (α := Nat × Tr) (fun (a, c) st => st.ob 2000 (.bx [.y (.sl 1 (M rowS c.keys)), .y (.sl 1 (M rowS c.vals)), .y (.sl 3 (M Tr.row c.kids))])) (fun a => Nd 1 a.1 a.2 ∧ endG a.1 a.2 = E) (fun a => a.1) (d, t) rfl ⟨h, hE.symm⟩ (fun K' hK I a hi ih => ?_)
  obtain ⟨e, c⟩ := a
  obtain ⟨hi, hz⟩ := hi
  dsimp only at hi hz
  cbv
  have lk : pLlen (M Tr.row c.kids) = Int.ofNat c.kids.length := (llenIs hF _).trans (by rw [← hM, List.length_map]; rfl)
  have lks : pLlen (M rowS c.keys) = Int.ofNat c.keys.length := (llenIs hF _).trans (by rw [← hM, List.length_map]; rfl)
  rw [lk]
  cases e with
  | zero => exact hi.elim
  | succ e =>
    obtain ⟨g1, g2, g3, g4⟩ := hi.lens'
    refine brkI (fun h => ?_) (fun h => ?_) <;> try cbv
    · have h := ltT hF h
      have hk0 : c.kids.length ≠ 0 := fun e => by rw [e] at h; simp at h
      have hkn : c.kids ≠ [] := fun e => hk0 (by rw [e]; rfl)
      have es : pSub .i64 (Int.ofNat c.kids.length) 1 = Int.ofNat (c.kids.length - 1) := sub1Is hF (by omega) (by omega)
      rw [lk, es]
      have hl := nd_kid hi hk0 (i := c.kids.length - 1) (by omega)
      refine lgetM (l := c.kids) (fun u => [.sl 1 (M rowS u.keys), .sl 1 (M rowS u.vals), .sl 3 (M Tr.row u.kids)]) (fun u => by simp only [Tr.row_eq, hM]) (hM _ _).symm hl.1 fun x hx => ?_
      cbv
      have hxk : x = c.kid (c.kids.length - 1) := hx.trans (getD_at hl.1).symm
      have hz' : endG e x = E := by
        rw [hxk]; rw [endG, if_neg hkn] at hz; exact hz
      have hx1 : Nd 1 e x := by rw [hxk]; exact hl.2
      conv => arg 1; cbv
      exact ih (e, x) _ ⟨hx1, hz'⟩ (by dsimp only; omega) rfl
    · have h := ltF hF h
      have hk0 : c.kids = [] := List.eq_nil_of_length_eq_zero (by ((try simp only [Int.ofNat_eq_natCast] at *); omega))
      rw [endG, if_pos hk0] at hz
      refine hK _ _ ?_
      cbv
      have es : pSub .i64 (Int.ofNat c.keys.length) 1 = Int.ofNat (c.keys.length - 1) := sub1Is hF (by omega) (by omega)
      obtain ⟨n, hn⟩ : ∃ n, n = c.keys.length - 1 := ⟨_, rfl⟩
      rw [lks, es, ← hn]
      refine lgetM (l := c.keys) (fun u => [yS u]) (fun u => by simp only [rowS]) (hM _ _).symm (i := n) (by omega) fun u hu => ?_
      cbv
      refine lgetM (l := c.vals) (fun u => [yS u]) (fun u => by simp only [rowS]) (hM _ _).symm (i := n) (by omega) fun v hv => ?_
      cbv
      rw [hr, hrr, ← hz, ← hn]
      simp only [Tr.key, Tr.val]
      rw [getD_of (by omega) hu, getD_of (by omega) hv]
theorem sEndL_ok (d : Nat) (t : Tr) (h : Nd 1 d t) : CallOK Try.prog 77 [.agg [.y (.sl 1 (t.keys.map rowS)), .y (.sl 1 (t.vals.map rowS)), .y (.sl 3 (t.kids.map Tr.row))], aB false] (tupSS (endL d t).1 (endL d t).2) := by
  obtain ⟨E, hE⟩ : ∃ E, E = endL d t := ⟨_, rfl⟩
  rw [← hE]
  obtain ⟨rr, hrr⟩ : ∃ r : Res, r = tupSS E.1 E.2 := ⟨_, rfl⟩
  rw [← hrr]
  obtain ⟨M, hM⟩ := mapEx
  try simp only [hM]
  refine go Try.func77 rfl rfl rfl rfl fun pAdd pSub pMul pQuo pRem pAnd pOr pXor pAndNot pShl pShr pNeg pCompl pConv pLt pLe pEq pSlt pSle pSeq pCat pCatOk pSlen pSsub pSat pIadd pIsub pBnot pBeq pImin pImax pLlen pLsub pLapp pLset pLcopy pLenOk pBytes pRep hF Ca hC r hr => ?_
  cbv
  have zD : ∀ a b, pLe a b = decide (a ≤ b) := leD hF
  have gD : ∀ a b, pLt a b = decide (a < b) := ltD hF
  have nD : ∀ xs : List (List Y), pLlen xs = Int.ofNat xs.length := fun xs => llenIs hF xs
  have uD : ∀ xs a b, pLsub xs a b = (xs.drop a.toNat).take b.toNat := lsubDD hF
  have iD : ∀ a b, pIsub a b = a - b := isubDD hF
  have aD : ∀ a b, pIadd a b = a + b := iaddDD hF
  have kD : ∀ a, pLenOk a = decide (a ≤ 4294967296) := lenOkDD hF
  have pD : ∀ a b, pLapp a b = a ++ b := lappDD hF
  have tD : ∀ l i x, pLset l i x = l.set i.toNat x := lsetDD hF
  refine loop_u (α := Nat × Tr) (fun (a, c) st => st.ob 2000 (.bx [.y (.sl 1 (M rowS c.keys)), .y (.sl 1 (M rowS c.vals)), .y (.sl 3 (M Tr.row c.kids))])) (fun a => Nd 1 a.1 a.2 ∧ endL a.1 a.2 = E) (fun a => a.1) (d, t) rfl ⟨h, hE.symm⟩ (fun K' hK I a hi ih => ?_)
  obtain ⟨e, c⟩ := a
  obtain ⟨hi, hz⟩ := hi
  dsimp only at hi hz
  cbv
  have lk : pLlen (M Tr.row c.kids) = Int.ofNat c.kids.length := (llenIs hF _).trans (by rw [← hM, List.length_map]; rfl)
  rw [lk]
  cases e with
  | zero => exact hi.elim
  | succ e =>
    obtain ⟨g1, g2, g3, g4⟩ := hi.lens'
    refine brkI (fun h => ?_) (fun h => ?_) <;> try cbv
    · have h := ltT hF h
      have hk0 : c.kids.length ≠ 0 := fun e => by rw [e] at h; simp at h
      have hkn : c.kids ≠ [] := fun e => hk0 (by rw [e]; rfl)
      have hl := nd_kid hi hk0 (i := 0) (by omega)
      refine lgetM (l := c.kids) (fun u => [.sl 1 (M rowS u.keys), .sl 1 (M rowS u.vals), .sl 3 (M Tr.row u.kids)]) (fun u => by simp only [Tr.row_eq, hM]) (hM _ _).symm hl.1 fun x hx => ?_
      cbv
      have hxk : x = c.kid 0 := hx.trans (getD_at hl.1).symm
      have hz' : endL e x = E := by
        rw [hxk]; rw [endL, if_neg hkn] at hz; exact hz
      have hx1 : Nd 1 e x := by rw [hxk]; exact hl.2
      conv => arg 1; cbv
      exact ih (e, x) _ ⟨hx1, hz'⟩ (by dsimp only; omega) rfl
    · have h := ltF hF h
      have hk0 : c.kids = [] := List.eq_nil_of_length_eq_zero (by ((try simp only [Int.ofNat_eq_natCast] at *); omega))
      rw [endL, if_pos hk0] at hz
      refine hK _ _ ?_
      cbv
      refine lgetM (l := c.keys) (fun u => [yS u]) (fun u => by simp only [rowS]) (hM _ _).symm (i := 0) (by omega) fun u hu => ?_
      cbv
      refine lgetM (l := c.vals) (fun u => [yS u]) (fun u => by simp only [rowS]) (hM _ _).symm (i := 0) (by omega) fun v hv => ?_
      cbv
      rw [hr, hrr, ← hz]
      simp only [Tr.key, Tr.val]
      rw [getD_of (by omega) hu, getD_of (by omega) hv]
end Go.Proofs.Ythaelohccopgjaa
