/- Functions of the program, each with what it returns, run by the evaluator; the conditions stand in the theorems. -/
import Derived.Test.YtemfaiabbonpnaaGreatDoorLTab
namespace Go.Proofs.YtemfaiabbonpnaaGreatDoor
open Go Go.Proofs.YtemfaiabbonpnaaGreatDoorW Go.Proofs
set_option linter.unusedVariables false
set_option linter.unusedSimpArgs false
set_option maxRecDepth 100000
set_option maxHeartbeats 8000000
theorem clashB_t {s : Sch} {a b : List Val} {i : Nat} (h : i < s.idx.length) (hc : clashAt s a b i = true) : clashB s a b = true := by
  rw [clashB, allTo_false h (by rw [hc]; rfl)]; rfl
theorem clashB_f {s : Sch} {a b : List Val} (h : ∀ i, i < s.idx.length → (!clashAt s a b i) = true) : clashB s a b = false := by
  rw [clashB, allTo_iff.2 h]; rfl
/-- All places of a schema's key and indexes are in a row. -/
structure Placed (s : Sch) (row : List Val) : Prop where
  idx : ∀ u ∈ s.idx, ∀ j, j < u.cols.length → placeAt row u.cols j = true
  key : ∀ j, j < s.key.length → placeAt row s.key j = true
theorem placeAt_of {row : List Val} {cols : List Int} {n : Nat} (hn : row.length = n) (h : colsRight cols (Int.ofNat n) = true) : ∀ j, j < cols.length → placeAt row cols j = true := by
  intro j hj
  have := colsRight_get h hj
  rw [placeAt, getD_at hj, hn, decide_eq_true this.1, decide_eq_true this.2]; rfl
theorem placed_of {s : Sch} {row : List Val} (hs : schRight s = true) (hr : rowOk s row = true) : Placed s row := by
  have hl := rowOk_eq hr
  simp only [schRight, schHead, Bool.and_eq_true] at hs
  refine ⟨fun u hu => ?_, placeAt_of hl hs.1.1.1.1.2⟩
  obtain ⟨i, hi, rfl⟩ := List.mem_iff_getElem.1 hu
  have := allTo_iff.1 hs.2 i hi
  rw [idxAt, getD_at hi] at this
  exact placeAt_of hl this
theorem sClash_ok (s : Sch) (a b : List Val) (hb : Sch.Bd 1048576 s) (pa : Placed s a) (pb : Placed s b) : CallOK Tryz.prog 97 [.agg [.y (yS s.name), .y (.sl 3 (s.cols.map Col.row)), .y (.sl 1 (s.key.map rowI)), .y (.sl 2 (s.idx.map Idx.row))], .c (.y (.sl 3 (a.map Val.row))), .c (.y (.sl 3 (b.map Val.row)))] (B (clashB s a b)) := by
  obtain ⟨q, hq⟩ : ∃ q, q = clashB s a b := ⟨_, rfl⟩
  rw [← hq]
  obtain ⟨n, hn⟩ : ∃ n, n = s.idx.length := ⟨_, rfl⟩
  have hil := hb.2.2.2.1.1
  have hib := hb.2.2.2.1.2
  rw [← hn] at hil
  obtain ⟨M, hM⟩ := mapEx
  try simp only [hM]
  refine go Tryz.func97 rfl rfl rfl rfl fun pAdd pSub pMul pQuo pRem pAnd pOr pXor pAndNot pShl pShr pNeg pCompl pConv pLt pLe pEq pSlt pSle pSeq pCat pCatOk pSlen pSsub pSat pIadd pIsub pBnot pBeq pImin pImax pLlen pLsub pLapp pLset pLcopy pLenOk pBytes pRep hF Ca hC r hr => ?_
  cbv
  have li : pLlen (M Idx.row s.idx) = Int.ofNat n := (llenIs hF _).trans (by rw [← hM, List.length_map, ← hn]; rfl)
  refine loop_all (fun a st => st.n 7 (Int.ofNat a)) (fun i => !clashAt s a b i) n rfl (fun K' hK I i hi hp ih => ?_)
  cbv
  rw [li]
  refine brkI (fun h0 => ?_) (fun h0 => ?_) <;> try cbv
  · have h0 := ltT hF h0
    have hs : i < s.idx.length := by rw [← hn]; ((try simp only [Int.ofNat_eq_natCast] at *); omega)
    have e1 : pAdd .i64 (Int.ofNat i) 1 = Int.ofNat (i + 1) := add1Is hF (by omega)
    obtain ⟨u, hu⟩ : ∃ u, u = s.idx[i] := ⟨_, rfl⟩
    have hum : u ∈ s.idx := hu ▸ List.getElem_mem hs
    have ku : s.idx.getD i default = u := getD_of hs hu
    have ca : clashAt s a b i = (u.uniq && !hasNull (pk a u.cols) && decide (cmpLs (pk a u.cols) (pk b u.cols) = 0)) := by rw [clashAt, ku]
    have c1 := l03Pick_ok a u.cols (hib u hum).1 (pa.idx u hum)
    have c2 := l03Pick_ok b u.cols (hib u hum).1 (pb.idx u hum)
    have pl : (pk a u.cols).length = u.cols.length := pickTo_len ..
    have c3 := sCmp_ok (pk a u.cols) (pk b u.cols) (by rw [pl, maxLen_is]; have := (hib u hum).1; omega)
    have plb : (pk a u.cols).length ≤ 1048576 := by rw [pl]; exact (hib u hum).1
    rw [show pickTo a u.cols u.cols.length = pk a u.cols from rfl] at c1
    rw [show pickTo b u.cols u.cols.length = pk b u.cols from rfl] at c2
    obtain ⟨A', hA'⟩ : ∃ x, x = pk a u.cols := ⟨_, rfl⟩
    obtain ⟨B', hB'⟩ : ∃ x, x = pk b u.cols := ⟨_, rfl⟩
    rw [← hA'] at c1 c3 ca plb
    rw [← hB'] at c2 c3 ca
    obtain ⟨cm, hcm⟩ : ∃ x, x = cmpLs A' B' := ⟨_, rfl⟩
    rw [← hcm] at c3 ca
    obtain ⟨un, hun⟩ : ∃ x, x = u.uniq := ⟨_, rfl⟩
    rw [← hun] at ca
    have get : ∀ {K : List Y → Prop}, K [.sl 1 (M rowI u.cols), yB un] → ∃ x, LGet (M Idx.row s.idx) (Int.ofNat i) x ∧ K x := fun k =>
      lgetM (l := s.idx) (fun u => [.sl 1 (M rowI u.cols), yB u.uniq]) (fun u => by simp only [Idx.row, hM]) (hM _ _).symm hs fun v hv => by
        rw [show v = u from hv.trans hu.symm, ← hun]; exact k
    refine get ?_
    cbv
    cases un with
    | false =>
      cbv
      conv => arg 1; cbv
      rw [e1]
      exact ih _ (by ((try simp only [Int.ofNat_eq_natCast] at *); omega)) (by rw [ca]; rfl) rfl
    | true =>
      cbv
      refine get ?_
      cbv
      refine callI hC (by have hh := c1; (try simp only [hM] at hh); exact hh) ?_
      cbv
      obtain ⟨nA, hnA⟩ : ∃ n, n = A'.length := ⟨_, rfl⟩
      rw [← hnA] at plb
      have lA : pLlen (M Val.row A') = Int.ofNat nA := (llenIs hF _).trans (by rw [← hM, List.length_map, ← hnA]; rfl)
      refine loop_u (α := Nat × Bool) (fun z st => (st.sc 9 (.bool z.2)).n 10 (Int.ofNat z.1)) (fun z => z.1 ≤ nA ∧ z.2 = !allTo (fun j => !decide ((A'.getD j default).k = 0)) z.1) (fun z => nA - z.1) (0, false) rfl ⟨by omega, rfl⟩ (fun K2 hK2 I2 z hz ih2 => ?_)
      obtain ⟨j, nu⟩ := z
      obtain ⟨hj, hnu⟩ := hz
      dsimp only at hj hnu
      cbv
      rw [lA]
      refine brkI (fun h1 => ?_) (fun h1 => ?_) <;> try cbv
      · have h1' := h1
        have h1 := ltT hF h1
        have hs2 : j < A'.length := by rw [← hnA]; ((try simp only [Int.ofNat_eq_natCast] at *); omega)
        have e2 : pAdd .i64 (Int.ofNat j) 1 = Int.ofNat (j + 1) := add1Is hF (by omega)
        have step : (!allTo (fun j => !decide ((A'.getD j default).k = 0)) (j + 1)) = (nu || decide ((A'.getD j default).k = 0)) := by
          rw [hnu, allTo]
          first
            | (rw [Bool.not_and, Bool.not_not])
            | (simp [Bool.not_and])
        cases nu with
        | true =>
          cbv
          conv => arg 1; cbv
          rw [e2]
          exact ih2 (j + 1, true) _ ⟨by dsimp only; ((try simp only [Int.ofNat_eq_natCast] at *); omega), by dsimp only; rw [step]; rfl⟩ (by dsimp only; ((try simp only [Int.ofNat_eq_natCast] at *); omega)) rfl
        | false =>
          cbv
          refine brT (zeroLe hF j) ?_
          rw [lA]
          refine brT h1' ?_
          try cbv
          refine lgetM (l := A') (fun u => [yN u.k, yN u.n, yS u.s]) (fun u => by simp only [Val.row, hM]) (hM _ _).symm hs2 fun v hv => ?_
          cbv
          have kv : A'.getD j default = v := getD_of hs2 hv
          rw [kv, Bool.false_or] at step
          refine brkI (fun h2 => ?_) (fun h2 => ?_) <;> try cbv
          · conv => arg 1; cbv
            rw [e2]
            exact ih2 (j + 1, true) _ ⟨by dsimp only; ((try simp only [Int.ofNat_eq_natCast] at *); omega), by dsimp only; rw [step, decide_eq_true (eqT hF h2)]⟩ (by dsimp only; ((try simp only [Int.ofNat_eq_natCast] at *); omega)) rfl
          · conv => arg 1; cbv
            rw [e2]
            exact ih2 (j + 1, false) _ ⟨by dsimp only; ((try simp only [Int.ofNat_eq_natCast] at *); omega), by dsimp only; rw [step, decide_eq_false (eqF hF h2)]⟩ (by dsimp only; ((try simp only [Int.ofNat_eq_natCast] at *); omega)) rfl
      · have h1 := ltF hF h1
        have hjn : j = nA := by ((try simp only [Int.ofNat_eq_natCast] at *); omega)
        have hnull : nu = hasNull A' := by rw [hnu, hjn, hnA]; rfl
        refine hK2 _ _ ?_
        cbv
        clear ih2
        cases nu with
        | true =>
          cbv
          conv => arg 1; cbv
          rw [e1]
          exact ih _ (by ((try simp only [Int.ofNat_eq_natCast] at *); omega)) (by rw [ca, ← hnull]; rfl) rfl
        | false =>
          cbv
          refine get ?_
          cbv
          refine callI hC (by have hh := c2; (try simp only [hM] at hh); exact hh) ?_
          cbv
          refine callN hC (by have hh := c3; (try simp only [hM] at hh); exact hh) (fun m hm => ?_)
          cbv
          refine brkI (fun h2 => ?_) (fun h2 => ?_) <;> try cbv
          · have h2 := eqT hF h2
            refine hK _ _ ?_
            cbv
            exact retB hr (hq.trans (clashB_t hs (by rw [ca, ← hnull, ← hm, h2]; rfl)))
          · have h2 := eqF hF h2
            conv => arg 1; cbv
            rw [e1]
            exact ih _ (by ((try simp only [Int.ofNat_eq_natCast] at *); omega)) (by rw [ca, ← hnull, ← hm, decide_eq_false h2]; rfl) rfl
  · have h0 := ltF hF h0
    refine hK _ _ ?_
    cbv
    exact retB hr (hq.trans (clashB_f fun j hj => hp j (by rw [← hn] at hj; ((try simp only [Int.ofNat_eq_natCast] at *); omega))))
end Go.Proofs.YtemfaiabbonpnaaGreatDoor
