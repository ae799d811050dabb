/- Functions of the program, each with what it returns, run by the evaluator; the conditions stand in the theorems. -/
import Derived.Test.YthaelohccopgjaaLTrC
namespace Go.Proofs.Ythaelohccopgjaa
open Go Go.Proofs.YthaelohccopgjaaW Go.Proofs
set_option linter.unusedVariables false
set_option linter.unusedSimpArgs false
set_option maxRecDepth 100000
set_option maxHeartbeats 8000000
abbrev fillRes (u : Tr) (k : Nat) : Res := ⟨.tup [(true, u.row.map AC.y), (false, [.y (yN (Int.ofNat k))])], []⟩
theorem Nd.kid2 {lo d : Nat} {t : Tr} (h : Nd lo (d + 2) t) {i : Nat} (hi : i ≤ t.keys.length) : i < t.kids.length ∧ Nd 1 (d + 1) (t.kid i) := by
  refine nd_kid h ?_ hi
  rcases h.2.2.2 with ⟨_, h⟩ | ⟨h, _⟩
  · omega
  · omega
theorem Nd.kin {lo d : Nat} {t : Tr} (h : Nd lo (d + 2) t) : t.kids.length = t.keys.length + 1 := by
  rcases h.2.2.2 with ⟨_, h⟩ | ⟨h, _⟩
  · omega
  · exact h
theorem nd_flatk {lo lo' d : Nat} {a b : Tr} (ha : Nd lo (d + 1) a) (hb : Nd lo' (d + 1) b) (h : a.kids ≠ []) : b.kids ≠ [] := by
  rcases ha.2.2.2 with ⟨h1, _⟩ | ⟨_, hd, _⟩
  · exact absurd h1 h
  · rcases hb.2.2.2 with ⟨_, h2⟩ | ⟨h2, _⟩
    · exact absurd h2 hd
    · intro e; rw [e] at h2; simp at h2
theorem Nd.kidsE {lo d : Nat} {t : Tr} (h : Nd lo (d + 1) t) : t.kids = [] ∨ t.kids.length = t.keys.length + 1 := h.2.2.2.elim (fun h => .inl h.1) fun h => .inr h.1
theorem Nd.kidsL {lo d : Nat} {t : Tr} (h : Nd lo (d + 1) t) : t.kids.length ≤ 4 := by
  have := h.2.1
  rcases h.kidsE with e | e
  · rw [e]; simp
  · omega
theorem sJoin_nd {lo d k : Nat} {t : Tr} (h : Nd lo (d + 2) t) (hk : k < t.keys.length) : CallOK Try.prog 78 [.agg [.y (.sl 1 (t.keys.map rowS)), .y (.sl 1 (t.vals.map rowS)), .y (.sl 3 (t.kids.map Tr.row))], aN (Int.ofNat k)] ⟨.agg ((joinT t k).row.map AC.y), []⟩ := by
  obtain ⟨x1, a⟩ := h.kid2 (i := k) (by omega)
  obtain ⟨x2, b⟩ := h.kid2 (i := k + 1) (by omega)
  have l := h.lens'
  have la := a.lens'
  have lb := b.lens'
  have := a.kidsL
  have := b.kidsL
  exact sJoin_ok t k (by omega) l.2.2.1 h.kin hk (by omega) (by omega) (by omega) (by omega) (by omega) (by omega)
theorem sLendB_nd {lo d k : Nat} {t : Tr} (h : Nd lo (d + 2) t) (hk : k < t.keys.length) : CallOK Try.prog 90 [.agg [.y (.sl 1 (t.keys.map rowS)), .y (.sl 1 (t.vals.map rowS)), .y (.sl 3 (t.kids.map Tr.row))], aN (Int.ofNat k), aB true] ⟨.agg ((lendB t k).row.map AC.y), []⟩ := by
  obtain ⟨x1, a⟩ := h.kid2 (i := k) (by omega)
  obtain ⟨x2, b⟩ := h.kid2 (i := k + 1) (by omega)
  have l := h.lens'
  have la := a.lens'
  have lb := b.lens'
  have := b.kidsL
  exact sLendB_ok t k (by omega) l.2.2.1 h.kin hk (by omega) la.2.2.1 (by omega) a.kidsE (by omega) lb.2.2.1 (by omega) (nd_flatk b a)
theorem sLendA_nd {lo d k : Nat} {t : Tr} (h : Nd lo (d + 2) t) (hk : k < t.keys.length) : CallOK Try.prog 90 [.agg [.y (.sl 1 (t.keys.map rowS)), .y (.sl 1 (t.vals.map rowS)), .y (.sl 3 (t.kids.map Tr.row))], aN (Int.ofNat k), aB false] ⟨.agg ((lendA t k).row.map AC.y), []⟩ := by
  obtain ⟨x1, a⟩ := h.kid2 (i := k) (by omega)
  obtain ⟨x2, b⟩ := h.kid2 (i := k + 1) (by omega)
  have l := h.lens'
  have la := a.lens'
  have lb := b.lens'
  have := a.kidsL
  exact sLendA_ok t k (by omega) l.2.2.1 h.kin hk (by omega) la.2.2.1 (by omega) (by omega) lb.2.2.1 (by omega) b.kidsE (nd_flatk a b)
theorem sFill_ok (lo d k : Nat) (t : Tr) (h : Nd lo (d + 2) t) (hk : k ≤ t.keys.length) (h1 : 1 ≤ t.keys.length) :
    CallOK Try.prog 76 [.agg [.y (.sl 1 (t.keys.map rowS)), .y (.sl 1 (t.vals.map rowS)), .y (.sl 3 (t.kids.map Tr.row))], aN (Int.ofNat k)] (fillRes (fillT t k).1 (fillT t k).2) := by
  refine CallQ.plain (Q := fun r' => r'.lo = fillRes (fillT t k).1 (fillT t k).2) ?_ fun _ h => h
  have l := h.lens'
  have hkin := h.kin
  have cB : 0 < k → CallOK Try.prog 90 [.agg [.y (.sl 1 (t.keys.map rowS)), .y (.sl 1 (t.vals.map rowS)), .y (.sl 3 (t.kids.map Tr.row))], aN (Int.ofNat (k - 1)), aB true] ⟨.agg ((lendB t (k - 1)).row.map AC.y), []⟩ := fun h0 => sLendB_nd h (by omega)
  have cA : k < t.keys.length → CallOK Try.prog 90 [.agg [.y (.sl 1 (t.keys.map rowS)), .y (.sl 1 (t.vals.map rowS)), .y (.sl 3 (t.kids.map Tr.row))], aN (Int.ofNat k), aB false] ⟨.agg ((lendA t k).row.map AC.y), []⟩ := fun h0 => sLendA_nd h h0
  have cJ : 0 < k → CallOK Try.prog 78 [.agg [.y (.sl 1 (t.keys.map rowS)), .y (.sl 1 (t.vals.map rowS)), .y (.sl 3 (t.kids.map Tr.row))], aN (Int.ofNat (k - 1))] ⟨.agg ((joinT t (k - 1)).row.map AC.y), []⟩ := fun h0 => sJoin_nd h (by omega)
  have cI : k < t.keys.length → CallOK Try.prog 78 [.agg [.y (.sl 1 (t.keys.map rowS)), .y (.sl 1 (t.vals.map rowS)), .y (.sl 3 (t.kids.map Tr.row))], aN (Int.ofNat k)] ⟨.agg ((joinT t k).row.map AC.y), []⟩ := fun h0 => sJoin_nd h h0
  obtain ⟨R, hR⟩ : ∃ R, R = fillRes (fillT t k).1 (fillT t k).2 := ⟨_, rfl⟩
  rw [← hR]
  have hf : fillT t k = if 1 < (t.kid k).keys.length then (t, k) else if 0 < k ∧ 1 < (t.kid (k - 1)).keys.length then (lendB t (k - 1), k) else if k < t.keys.length ∧ 1 < (t.kid (k + 1)).keys.length then (lendA t k, k) else if 0 < k then (joinT t (k - 1), k - 1) else (joinT t k, k) := rfl
  rw [hf] at hR
  clear hf
  obtain ⟨uB, huB⟩ : ∃ u, u = lendB t (k - 1) := ⟨_, rfl⟩
  obtain ⟨uA, huA⟩ : ∃ u, u = lendA t k := ⟨_, rfl⟩
  obtain ⟨uJ, huJ⟩ : ∃ u, u = joinT t (k - 1) := ⟨_, rfl⟩
  obtain ⟨uI, huI⟩ : ∃ u, u = joinT t k := ⟨_, rfl⟩
  rw [← huB] at cB hR
  rw [← huA] at cA hR
  rw [← huJ] at cJ hR
  rw [← huI] at cI hR
  rw [Tr.row_eq] at cB cA cJ cI
  clear huB huA huJ huI h
  have hkl : k < t.kids.length := by omega
  obtain ⟨M, hM⟩ := mapEx
  try simp only [hM]
  refine goQ Try.func76 rfl rfl rfl rfl fun pAdd pSub pMul pQuo pRem pAnd pOr pXor pAndNot pShl pShr pNeg pCompl pConv pLt pLe pEq pSlt pSle pSeq pCat pCatOk pSlen pSsub pSat pIadd pIsub pBnot pBeq pImin pImax pLlen pLsub pLapp pLset pLcopy pLenOk pBytes pRep hF Ca hC Q1 hQ => ?_
  cbv
  have zD : ∀ a b, pLe a b = decide (a ≤ b) := leD hF
  have gD : ∀ a b, pLt a b = decide (a < b) := ltD hF
  have nD : ∀ xs : List (List Y), pLlen xs = Int.ofNat xs.length := fun xs => llenIs hF xs
  have uD : ∀ xs a b, pLsub xs a b = (xs.drop a.toNat).take b.toNat := lsubDD hF
  have iD : ∀ a b, pIsub a b = a - b := isubDD hF
  have aD : ∀ a b, pIadd a b = a + b := iaddDD hF
  have kD : ∀ a, pLenOk a = decide (a ≤ 4294967296) := lenOkDD hF
  have pD : ∀ a b, pLapp a b = a ++ b := lappDD hF
  have tD : ∀ l i x, pLset l i x = l.set i.toNat x := lsetDD hF
  have l1 : pLlen (M rowS t.keys) = Int.ofNat t.keys.length := by rw [nD, ← hM, List.length_map]
  have lks : ∀ c : Tr, pLlen (M rowS c.keys) = Int.ofNat c.keys.length := fun c => by rw [nD, ← hM, List.length_map]
  have ea : pAdd .i64 (Int.ofNat k) 1 = Int.ofNat (k + 1) := add1Is hF (by omega)
  have es : 0 < k → pSub .i64 (Int.ofNat k) 1 = Int.ofNat (k - 1) := fun h => sub1Is hF h (by omega)
  refine lgetM (l := t.kids) (fun u => [.sl 1 (M rowS u.keys), .sl 1 (M rowS u.vals), .sl 3 (M Tr.row u.kids)]) (fun u => by simp only [Tr.row_eq, hM]) (hM _ _).symm hkl fun c hc => ?_
  cbv
  have hck : c = t.kid k := hc.trans (getD_at hkl).symm
  rw [← hck] at hR
  rw [lks]
  refine brkI (fun h => ?_) (fun h => ?_) <;> try cbv
  · have h := ltT hF h
    rw [if_pos (by ((try simp only [Int.ofNat_eq_natCast] at *); omega))] at hR
    refine hQ _ ?_
    rw [hR]
    simp only [← hM]
    simp [resOf, Res.lo, RV.lo, AC.lo, Tr.row_eq]
  · have h := ltF hF h
    rw [if_neg (by ((try simp only [Int.ofNat_eq_natCast] at *); omega))] at hR
    refine brkI (fun h0 => ?_) (fun h0 => ?_) <;> try cbv
    · have hk0 := ltT hF h0
      have hk0 : 0 < k := by ((try simp only [Int.ofNat_eq_natCast] at *); omega)
      have hkp : k - 1 < t.kids.length := by omega
      rw [es hk0]
      refine lgetM (l := t.kids) (fun u => [.sl 1 (M rowS u.keys), .sl 1 (M rowS u.vals), .sl 3 (M Tr.row u.kids)]) (fun u => by simp only [Tr.row_eq, hM]) (hM _ _).symm (i := k - 1) hkp fun c1 hc1 => ?_
      cbv
      have hc1k : c1 = t.kid (k - 1) := hc1.trans (getD_at hkp).symm
      rw [← hc1k] at hR
      rw [lks]
      refine brkI (fun h => ?_) (fun h => ?_) <;> try cbv
      · have h := ltT hF h
        rw [if_pos ⟨hk0, by ((try simp only [Int.ofNat_eq_natCast] at *); omega)⟩] at hR
        try rw [es hk0]
        refine callI hC (by have hh := cB hk0; (try simp only [hM, List.map_cons, List.map_nil] at hh); exact hh) ?_
        cbv
        refine hQ _ ?_
        rw [hR]
        simp only [← hM]
        simp [resOf, Res.lo, RV.lo, AC.lo, Tr.row_eq]
      · have h := ltF hF h
        rw [if_neg (fun hh => by have := hh.2; ((try simp only [Int.ofNat_eq_natCast] at *); omega))] at hR
        rw [l1]
        refine brkI (fun h => ?_) (fun h => ?_) <;> try cbv
        · have hk1 := ltT hF h
          have hk1 : k < t.keys.length := by ((try simp only [Int.ofNat_eq_natCast] at *); omega)
          have hkk : k + 1 < t.kids.length := by omega
          rw [ea]
          refine lgetM (l := t.kids) (fun u => [.sl 1 (M rowS u.keys), .sl 1 (M rowS u.vals), .sl 3 (M Tr.row u.kids)]) (fun u => by simp only [Tr.row_eq, hM]) (hM _ _).symm (i := k + 1) hkk fun c2 hc2 => ?_
          cbv
          have hc2k : c2 = t.kid (k + 1) := hc2.trans (getD_at hkk).symm
          rw [← hc2k] at hR
          rw [lks]
          refine brkI (fun h => ?_) (fun h => ?_) <;> try cbv
          · have h := ltT hF h
            rw [if_pos ⟨hk1, by ((try simp only [Int.ofNat_eq_natCast] at *); omega)⟩] at hR
            refine callI hC (by have hh := cA hk1; (try simp only [hM, List.map_cons, List.map_nil] at hh); exact hh) ?_
            cbv
            refine hQ _ ?_
            rw [hR]
            simp only [← hM]
            simp [resOf, Res.lo, RV.lo, AC.lo, Tr.row_eq]
          · have h := ltF hF h
            rw [if_neg (fun hh => by have := hh.2; ((try simp only [Int.ofNat_eq_natCast] at *); omega))] at hR
            rw [if_pos hk0] at hR
            refine brT (mkLt hF (by ((try simp only [Int.ofNat_eq_natCast] at *); omega))) ?_
            try cbv
            rw [es hk0]
            refine callI hC (by have hh := cJ hk0; (try simp only [hM, List.map_cons, List.map_nil] at hh); exact hh) ?_
            cbv
            try rw [es hk0]
            refine hQ _ ?_
            rw [hR]
            simp only [← hM]
            simp [resOf, Res.lo, RV.lo, AC.lo, Tr.row_eq]
        · have hk1 := ltF hF h
          rw [if_neg (fun hh => by have := hh.1; ((try simp only [Int.ofNat_eq_natCast] at *); omega))] at hR
          rw [if_pos hk0] at hR
          refine brT (mkLt hF (by ((try simp only [Int.ofNat_eq_natCast] at *); omega))) ?_
          try cbv
          rw [es hk0]
          refine callI hC (by have hh := cJ hk0; (try simp only [hM, List.map_cons, List.map_nil] at hh); exact hh) ?_
          cbv
          try rw [es hk0]
          refine hQ _ ?_
          rw [hR]
          simp only [← hM]
          simp [resOf, Res.lo, RV.lo, AC.lo, Tr.row_eq]
    · have hk0 := ltF hF h0
      have hk0 : k = 0 := by ((try simp only [Int.ofNat_eq_natCast] at *); omega)
      rw [if_neg (fun hh => by have := hh.1; omega)] at hR
      rw [l1]
      refine brkI (fun h => ?_) (fun h => ?_) <;> try cbv
      · have hk1 := ltT hF h
        have hk1 : k < t.keys.length := by ((try simp only [Int.ofNat_eq_natCast] at *); omega)
        have hkk : k + 1 < t.kids.length := by omega
        rw [ea]
        refine lgetM (l := t.kids) (fun u => [.sl 1 (M rowS u.keys), .sl 1 (M rowS u.vals), .sl 3 (M Tr.row u.kids)]) (fun u => by simp only [Tr.row_eq, hM]) (hM _ _).symm (i := k + 1) hkk fun c2 hc2 => ?_
        cbv
        have hc2k : c2 = t.kid (k + 1) := hc2.trans (getD_at hkk).symm
        rw [← hc2k] at hR
        rw [lks]
        refine brkI (fun h => ?_) (fun h => ?_) <;> try cbv
        · have h := ltT hF h
          rw [if_pos ⟨hk1, by ((try simp only [Int.ofNat_eq_natCast] at *); omega)⟩] at hR
          refine callI hC (by have hh := cA hk1; (try simp only [hM, List.map_cons, List.map_nil] at hh); exact hh) ?_
          cbv
          refine hQ _ ?_
          rw [hR]
          simp only [← hM]
          simp [resOf, Res.lo, RV.lo, AC.lo, Tr.row_eq]
        · have h := ltF hF h
          rw [if_neg (fun hh => by have := hh.2; ((try simp only [Int.ofNat_eq_natCast] at *); omega))] at hR
          rw [if_neg (by omega)] at hR
          refine brF (mkNlt hF (by ((try simp only [Int.ofNat_eq_natCast] at *); omega))) ?_
          try cbv
          refine callI hC (by have hh := cI hk1; (try simp only [hM, List.map_cons, List.map_nil] at hh); exact hh) ?_
          cbv
          refine hQ _ ?_
          rw [hR]
          simp only [← hM]
          simp [resOf, Res.lo, RV.lo, AC.lo, Tr.row_eq]
      · have hk1 := ltF hF h
        exact absurd h1 (by ((try simp only [Int.ofNat_eq_natCast] at *); omega))
end Go.Proofs.Ythaelohccopgjaa
