/- Functions of the program, each with what it returns, run by the evaluator; the conditions stand in the theorems. -/
import Derived.Test.YtngnflfjacappaaLTy
namespace Go.Proofs.Ytngnflfjacappaa
open Go Go.Proofs.YtngnflfjacappaaW Go.Proofs
set_option linter.unusedVariables false
set_option linter.unusedSimpArgs false
set_option maxRecDepth 100000
set_option maxHeartbeats 8000000
def noB : ByteArray := ⟨⟨[]⟩⟩
def secAt (l : List ByteArray) (i : Nat) : Bool := decide ((l.getD i noB).size = 64)
def wrAt (d : Dsk) (i : Nat) : Bool := decide (0 ≤ (d.cache.getD i default).at_) && decide ((d.cache.getD i default).at_ < Int.ofNat d.secs.length) && decide ((d.cache.getD i default).text.size = 64)
def diskRight (d : Dsk) : Bool := decide (d.secs.length ≤ 700) && decide (d.cache.length ≤ 400) && allTo (secAt d.secs) d.secs.length && allTo (wrAt d) d.cache.length
theorem diskRight_len {d : Dsk} (h : 700 < d.secs.length ∨ 400 < d.cache.length) : diskRight d = false := by
  have : (decide (d.secs.length ≤ 700) && decide (d.cache.length ≤ 400)) = false := by (first | (simp only [Bool.or_eq_true, Bool.and_eq_true, Bool.not_eq_true', Bool.or_eq_false_iff, Bool.and_eq_false_iff, Bool.not_eq_false', decide_eq_true_eq, decide_eq_false_iff_not, Bool.not_false, Bool.not_true, Bool.and_true, Bool.true_and, Bool.or_false, Bool.false_or, and_true, true_and, Int.ofNat_eq_natCast] at *; omega) | (simp only [Bool.eq_false_iff, ne_eq, Bool.or_eq_true, Bool.and_eq_true, Bool.not_eq_true', decide_eq_true_eq, decide_eq_false_iff_not, Bool.not_false, Bool.not_true, Bool.and_true, Bool.true_and, Bool.or_false, Bool.false_or, and_true, true_and, Int.ofNat_eq_natCast] at *; omega) | (simp only [Bool.or_eq_true, Bool.and_eq_true, Bool.not_eq_true', Bool.or_eq_false_iff, Bool.and_eq_false_iff, Bool.not_eq_false', decide_eq_true_eq, decide_eq_false_iff_not, Bool.not_false, Bool.not_true, Bool.and_true, Bool.true_and, Bool.or_false, Bool.false_or, and_true, true_and, Int.ofNat_eq_natCast] at *; grind) | grind)
  rw [diskRight, this]; rfl
theorem diskRight_sec {d : Dsk} {i : Nat} (h : i < d.secs.length) (hp : secAt d.secs i = false) : diskRight d = false := by rw [diskRight, allTo_false h hp, Bool.and_false]; rfl
theorem diskRight_wr {d : Dsk} {i : Nat} (h : i < d.cache.length) (hp : wrAt d i = false) : diskRight d = false := by rw [diskRight, allTo_false h hp, Bool.and_false]
theorem sDiskRight_ok (d : Dsk) (hm : Dsk.Bd maxLen d) : CallOK Try.prog 31 [.agg [.y (.sl 1 (d.secs.map rowS)), .y (.sl 2 (d.cache.map Wr.row))]] (B (diskRight d)) := by
  have b1 := hm.1.1
  have b2 := hm.2.1.1
  rw [maxLen_is] at b1 b2
  clear hm
  obtain ⟨q, hq⟩ : ∃ q, q = diskRight d := ⟨_, rfl⟩
  obtain ⟨xs, hx⟩ : ∃ xs, xs = d.secs.map rowS := ⟨_, rfl⟩
  have hxl : xs.length = d.secs.length := by rw [hx, List.length_map]
  obtain ⟨ws, hws⟩ : ∃ ws, ws = d.cache.map Wr.row := ⟨_, rfl⟩
  have hwl : ws.length = d.cache.length := by rw [hws, List.length_map]
  rw [← hq, ← hx, ← hws]
  obtain ⟨M, hM⟩ := mapEx
  try simp only [hM]
  refine go Try.func31 rfl rfl rfl rfl fun pAdd pSub pMul pQuo pRem pAnd pOr pXor pAndNot pShl pShr pNeg pCompl pConv pLt pLe pEq pSlt pSle pSeq pCat pCatOk pSlen pSsub pSat pIadd pIsub pBnot pBeq pImin pImax pLlen pLsub pLapp pLset pLcopy pLenOk pBytes pRep hF Ca hC r hr => ?_
  cbv
  have e1 : pLlen xs = Int.ofNat d.secs.length := by rw [← hxl]; exact llenIs hF xs
  have e2 : pLlen ws = Int.ofNat d.cache.length := by rw [← hwl]; exact llenIs hF ws
  refine brkI (fun h => ?_) (fun h => ?_) <;> try cbv
  · have h := ltT hF h
    rw [e1] at h
    exact retB hr (hq.trans (diskRight_len (.inl (by ((try simp only [Int.ofNat_eq_natCast] at *); omega)))))
  have h1 := ltF hF h
  rw [e1] at h1
  have h1 : d.secs.length ≤ 700 := by ((try simp only [Int.ofNat_eq_natCast] at *); omega)
  refine brkI (fun h => ?_) (fun h => ?_) <;> try cbv
  · have h := ltT hF h
    rw [e2] at h
    exact retB hr (hq.trans (diskRight_len (.inr (by ((try simp only [Int.ofNat_eq_natCast] at *); omega)))))
  have h2 := ltF hF h
  rw [e2] at h2
  have h2 : d.cache.length ≤ 400 := by ((try simp only [Int.ofNat_eq_natCast] at *); omega)
  refine loop_all (fun a st => st.n 3 (Int.ofNat a)) (secAt d.secs) d.secs.length rfl (fun K' hK I i hi hp ih => ?_)
  cbv
  refine brkI (fun h => ?_) (fun h => ?_) <;> try cbv
  · have hs : i < d.secs.length := hxl ▸ iltT hF h
    have e1 : pAdd .i64 (Int.ofNat i) 1 = Int.ofNat (i + 1) := add1Is hF (by omega)
    refine lgetM (fun u => [yS u]) (fun u => by simp only [rowS]) hx hs fun u hu => ?_
    cbv
    have hu' : secAt d.secs i = decide (u.size = 64) := by rw [secAt, getD_of hs hu]
    have eu : pSlen u = Int.ofNat u.size := slenIs hF u
    refine brkI (fun h3 => ?_) (fun h3 => ?_) <;> try cbv
    · have h3 := eqT hF h3
      rw [eu] at h3
      conv => arg 1; cbv
      rw [e1]
      exact ih _ hs (hu'.trans (decide_eq_true (by ((try simp only [Int.ofNat_eq_natCast] at *); omega)))) rfl
    · have h3 := eqF hF h3
      rw [eu] at h3
      refine hK _ _ ?_
      cbv
      exact retB hr (hq.trans (diskRight_sec hs (hu'.trans (decide_eq_false (by ((try simp only [Int.ofNat_eq_natCast] at *); omega))))))
  · have hs : i = d.secs.length := Nat.le_antisymm hi (hxl ▸ iltF hF h)
    have hsec : allTo (secAt d.secs) d.secs.length = true := hs ▸ allTo_iff.2 hp
    clear ih hp hi
    refine hK _ _ ?_
    cbv
    clear hK
    refine loop_all (fun a st => st.n 4 (Int.ofNat a)) (wrAt d) d.cache.length rfl (fun K' hK I i hi hp ih => ?_)
    cbv
    refine brkI (fun h => ?_) (fun h => ?_) <;> try cbv
    · have hs : i < d.cache.length := hwl ▸ iltT hF h
      have e3 : pAdd .i64 (Int.ofNat i) 1 = Int.ofNat (i + 1) := add1Is hF (by omega)
      refine lgetM (fun u => [yN u.at_, yS u.text]) (fun u => by simp only [Wr.row, hM]) hws hs fun u hu => ?_
      cbv
      have hu' : wrAt d i = (decide (0 ≤ u.at_) && decide (u.at_ < Int.ofNat d.secs.length) && decide (u.text.size = 64)) := by rw [wrAt, getD_of hs hu]
      have eu : pSlen u.text = Int.ofNat u.text.size := slenIs hF u.text
      repeat' (refine brkI (fun h3 => ?_) (fun h3 => ?_) <;> try cbv)
      all_goals first
        | (conv => arg 1; cbv
           rw [e3]
           refine ih _ hs (hu'.trans ?_) rfl)
        | (refine hK _ _ ?_
           cbv
           refine retB hr (hq.trans (diskRight_wr hs (hu'.trans ?_))))
      all_goals
        clear hK ih hC hr hp hu hu' e3
        have lD : ∀ a b, pLt a b = decide (a < b) := ltD hF
        have eD : ∀ a b, pLe a b = decide (a ≤ b) := leD hF
        have qD : ∀ a b, pEq a b = decide (a = b) := eqD hF
        have sD : ∀ a b, pSeq a b = decide (a = b) := seqD hF
        simp only [lD, eD, qD, e1, eu] at *
        clear lD eD qD sD hF
        (first | (simp only [Bool.or_eq_true, Bool.and_eq_true, Bool.not_eq_true', Bool.or_eq_false_iff, Bool.and_eq_false_iff, Bool.not_eq_false', decide_eq_true_eq, decide_eq_false_iff_not, Bool.not_false, Bool.not_true, Bool.and_true, Bool.true_and, Bool.or_false, Bool.false_or, and_true, true_and, Int.ofNat_eq_natCast] at *; omega) | (simp only [Bool.eq_false_iff, ne_eq, Bool.or_eq_true, Bool.and_eq_true, Bool.not_eq_true', decide_eq_true_eq, decide_eq_false_iff_not, Bool.not_false, Bool.not_true, Bool.and_true, Bool.true_and, Bool.or_false, Bool.false_or, and_true, true_and, Int.ofNat_eq_natCast] at *; omega) | (simp only [Bool.or_eq_true, Bool.and_eq_true, Bool.not_eq_true', Bool.or_eq_false_iff, Bool.and_eq_false_iff, Bool.not_eq_false', decide_eq_true_eq, decide_eq_false_iff_not, Bool.not_false, Bool.not_true, Bool.and_true, Bool.true_and, Bool.or_false, Bool.false_or, and_true, true_and, Int.ofNat_eq_natCast] at *; grind) | grind)
    · have hs : i = d.cache.length := Nat.le_antisymm hi (hwl ▸ iltF hF h)
      have hwr : allTo (wrAt d) d.cache.length = true := hs ▸ allTo_iff.2 hp
      refine hK _ _ ?_
      cbv
      refine retB hr (hq.trans ?_)
      rw [diskRight, decide_eq_true h1, decide_eq_true h2, hsec, hwr]; rfl
theorem iDiskRight_ok (d : Dsk) (hm : Dsk.Bd maxLen d) : CallOK Try.prog 10 [.agg [.y (.sl 1 (d.secs.map rowS)), .y (.sl 2 (d.cache.map Wr.row))]] (B (diskRight d)) := by
  have b1 := hm.1.1
  have b2 := hm.2.1.1
  rw [maxLen_is] at b1 b2
  clear hm
  obtain ⟨q, hq⟩ : ∃ q, q = diskRight d := ⟨_, rfl⟩
  obtain ⟨xs, hx⟩ : ∃ xs, xs = d.secs.map rowS := ⟨_, rfl⟩
  have hxl : xs.length = d.secs.length := by rw [hx, List.length_map]
  obtain ⟨ws, hws⟩ : ∃ ws, ws = d.cache.map Wr.row := ⟨_, rfl⟩
  have hwl : ws.length = d.cache.length := by rw [hws, List.length_map]
  rw [← hq, ← hx, ← hws]
  obtain ⟨M, hM⟩ := mapEx
  try simp only [hM]
  refine go Try.func10 rfl rfl rfl rfl fun pAdd pSub pMul pQuo pRem pAnd pOr pXor pAndNot pShl pShr pNeg pCompl pConv pLt pLe pEq pSlt pSle pSeq pCat pCatOk pSlen pSsub pSat pIadd pIsub pBnot pBeq pImin pImax pLlen pLsub pLapp pLset pLcopy pLenOk pBytes pRep hF Ca hC r hr => ?_
  cbv
  have e1 : pLlen xs = Int.ofNat d.secs.length := by rw [← hxl]; exact llenIs hF xs
  have e2 : pLlen ws = Int.ofNat d.cache.length := by rw [← hwl]; exact llenIs hF ws
  refine brkI (fun h => ?_) (fun h => ?_) <;> try cbv
  · have h := ltT hF h
    rw [e1] at h
    exact retB hr (hq.trans (diskRight_len (.inl (by ((try simp only [Int.ofNat_eq_natCast] at *); omega)))))
  have h1 := ltF hF h
  rw [e1] at h1
  have h1 : d.secs.length ≤ 700 := by ((try simp only [Int.ofNat_eq_natCast] at *); omega)
  refine brkI (fun h => ?_) (fun h => ?_) <;> try cbv
  · have h := ltT hF h
    rw [e2] at h
    exact retB hr (hq.trans (diskRight_len (.inr (by ((try simp only [Int.ofNat_eq_natCast] at *); omega)))))
  have h2 := ltF hF h
  rw [e2] at h2
  have h2 : d.cache.length ≤ 400 := by ((try simp only [Int.ofNat_eq_natCast] at *); omega)
  refine loop_all (fun a st => st.n 20 (Int.ofNat a)) (secAt d.secs) d.secs.length rfl (fun K' hK I i hi hp ih => ?_)
  cbv
  refine brkI (fun h => ?_) (fun h => ?_) <;> try cbv
  · have hs : i < d.secs.length := hxl ▸ iltT hF h
    have e1 : pAdd .i64 (Int.ofNat i) 1 = Int.ofNat (i + 1) := add1Is hF (by omega)
    refine lgetM (fun u => [yS u]) (fun u => by simp only [rowS]) hx hs fun u hu => ?_
    cbv
    have hu' : secAt d.secs i = decide (u.size = 64) := by rw [secAt, getD_of hs hu]
    have eu : pSlen u = Int.ofNat u.size := slenIs hF u
    refine brkI (fun h3 => ?_) (fun h3 => ?_) <;> try cbv
    · have h3 := eqT hF h3
      rw [eu] at h3
      conv => arg 1; cbv
      rw [e1]
      exact ih _ hs (hu'.trans (decide_eq_true (by ((try simp only [Int.ofNat_eq_natCast] at *); omega)))) rfl
    · have h3 := eqF hF h3
      rw [eu] at h3
      refine hK _ _ ?_
      cbv
      exact retB hr (hq.trans (diskRight_sec hs (hu'.trans (decide_eq_false (by ((try simp only [Int.ofNat_eq_natCast] at *); omega))))))
  · have hs : i = d.secs.length := Nat.le_antisymm hi (hxl ▸ iltF hF h)
    have hsec : allTo (secAt d.secs) d.secs.length = true := hs ▸ allTo_iff.2 hp
    clear ih hp hi
    refine hK _ _ ?_
    cbv
    clear hK
    refine loop_all (fun a st => st.n 31 (Int.ofNat a)) (wrAt d) d.cache.length rfl (fun K' hK I i hi hp ih => ?_)
    cbv
    refine brkI (fun h => ?_) (fun h => ?_) <;> try cbv
    · have hs : i < d.cache.length := hwl ▸ iltT hF h
      have e3 : pAdd .i64 (Int.ofNat i) 1 = Int.ofNat (i + 1) := add1Is hF (by omega)
      refine lgetM (fun u => [yN u.at_, yS u.text]) (fun u => by simp only [Wr.row, hM]) hws hs fun u hu => ?_
      cbv
      have hu' : wrAt d i = (decide (0 ≤ u.at_) && decide (u.at_ < Int.ofNat d.secs.length) && decide (u.text.size = 64)) := by rw [wrAt, getD_of hs hu]
      have eu : pSlen u.text = Int.ofNat u.text.size := slenIs hF u.text
      obtain ⟨m, hm⟩ : ∃ m, m = pSub .i64 (pLlen xs) 1 := ⟨_, rfl⟩
      rw [← hm]
      refine callB hC (within_ok u.at_ 0 m) (fun h3 => ?_) (fun h3 => ?_) <;> try cbv
      all_goals
        have e3' : m = Int.ofNat d.secs.length - 1 := by rw [hm, e1]; exact subIs hF (by ((try simp only [Int.ofNat_eq_natCast] at *); omega)) (by ((try simp only [Int.ofNat_eq_natCast] at *); omega))
      · refine brkI (fun h4 => ?_) (fun h4 => ?_) <;> try cbv
        all_goals first
          | (conv => arg 1; cbv
             rw [e3]
             refine ih _ hs (hu'.trans ?_) rfl)
          | (refine hK _ _ ?_
             cbv
             refine retB hr (hq.trans (diskRight_wr hs (hu'.trans ?_))))
        all_goals
          clear hK ih hC hr hp hu hu' e3
          have lD : ∀ a b, pLt a b = decide (a < b) := ltD hF
          have eD : ∀ a b, pLe a b = decide (a ≤ b) := leD hF
          have qD : ∀ a b, pEq a b = decide (a = b) := eqD hF
          have sD : ∀ a b, pSeq a b = decide (a = b) := seqD hF
          simp only [lD, eD, qD, e1, eu, e3'] at *
          clear lD eD qD sD hF
          (first | (simp only [Bool.or_eq_true, Bool.and_eq_true, Bool.not_eq_true', Bool.or_eq_false_iff, Bool.and_eq_false_iff, Bool.not_eq_false', decide_eq_true_eq, decide_eq_false_iff_not, Bool.not_false, Bool.not_true, Bool.and_true, Bool.true_and, Bool.or_false, Bool.false_or, and_true, true_and, Int.ofNat_eq_natCast] at *; omega) | (simp only [Bool.eq_false_iff, ne_eq, Bool.or_eq_true, Bool.and_eq_true, Bool.not_eq_true', decide_eq_true_eq, decide_eq_false_iff_not, Bool.not_false, Bool.not_true, Bool.and_true, Bool.true_and, Bool.or_false, Bool.false_or, and_true, true_and, Int.ofNat_eq_natCast] at *; omega) | (simp only [Bool.or_eq_true, Bool.and_eq_true, Bool.not_eq_true', Bool.or_eq_false_iff, Bool.and_eq_false_iff, Bool.not_eq_false', decide_eq_true_eq, decide_eq_false_iff_not, Bool.not_false, Bool.not_true, Bool.and_true, Bool.true_and, Bool.or_false, Bool.false_or, and_true, true_and, Int.ofNat_eq_natCast] at *; grind) | grind)
      · refine hK _ _ ?_
        cbv
        refine retB hr (hq.trans (diskRight_wr hs (hu'.trans ?_)))
        have : (decide (0 ≤ u.at_) && decide (u.at_ < Int.ofNat d.secs.length)) = false := by
          clear hK ih hC hr hp hu hu' e3
          simp only [e3'] at h3
          (first | (simp only [Bool.or_eq_true, Bool.and_eq_true, Bool.not_eq_true', Bool.or_eq_false_iff, Bool.and_eq_false_iff, Bool.not_eq_false', decide_eq_true_eq, decide_eq_false_iff_not, Bool.not_false, Bool.not_true, Bool.and_true, Bool.true_and, Bool.or_false, Bool.false_or, and_true, true_and, Int.ofNat_eq_natCast] at *; omega) | (simp only [Bool.eq_false_iff, ne_eq, Bool.or_eq_true, Bool.and_eq_true, Bool.not_eq_true', decide_eq_true_eq, decide_eq_false_iff_not, Bool.not_false, Bool.not_true, Bool.and_true, Bool.true_and, Bool.or_false, Bool.false_or, and_true, true_and, Int.ofNat_eq_natCast] at *; omega) | (simp only [Bool.or_eq_true, Bool.and_eq_true, Bool.not_eq_true', Bool.or_eq_false_iff, Bool.and_eq_false_iff, Bool.not_eq_false', decide_eq_true_eq, decide_eq_false_iff_not, Bool.not_false, Bool.not_true, Bool.and_true, Bool.true_and, Bool.or_false, Bool.false_or, and_true, true_and, Int.ofNat_eq_natCast] at *; grind) | grind)
        rw [this, Bool.false_and]
    · have hs : i = d.cache.length := Nat.le_antisymm hi (hwl ▸ iltF hF h)
      have hwr : allTo (wrAt d) d.cache.length = true := hs ▸ allTo_iff.2 hp
      refine hK _ _ ?_
      cbv
      refine retB hr (hq.trans ?_)
      rw [diskRight, decide_eq_true h1, decide_eq_true h2, hsec, hwr]; rfl
theorem cloneS_ok (l : List ByteArray) (hl : l.length ≤ 4294967296) : CallOK Try.prog 38 [.c (.y (.sl 1 (l.map rowS)))] ⟨.c (.own 1 (l.map rowS)), []⟩ := by
  obtain ⟨xs, hx⟩ : ∃ xs, xs = l.map rowS := ⟨_, rfl⟩
  have hxl : xs.length = l.length := by rw [hx, List.length_map]
  rw [← hx]
  obtain ⟨M, hM⟩ := mapEx
  try simp only [hM]
  refine go Try.func38 rfl rfl rfl rfl fun pAdd pSub pMul pQuo pRem pAnd pOr pXor pAndNot pShl pShr pNeg pCompl pConv pLt pLe pEq pSlt pSle pSeq pCat pCatOk pSlen pSsub pSat pIadd pIsub pBnot pBeq pImin pImax pLlen pLsub pLapp pLset pLcopy pLenOk pBytes pRep hF Ca hC r hr => ?_
  cbv
  have g : pLenOk (pLlen xs) = true := lenOkLen hF (by omega)
  refine brkI (fun h => ?_) (fun h => ?_) <;> try cbv
  · have h0 := eqT hF h
    rw [show pLlen xs = Int.ofNat xs.length from llenIs hF xs] at h0
    have h0 : xs = [] := List.eq_nil_of_length_eq_zero (by ((try simp only [Int.ofNat_eq_natCast] at *); omega))
    refine ⟨?_, ?_⟩ <;> cbv
    · rw [hr, h0]
    · refine brT g ?_
      first | exact hr.symm | (cbv; exact hr.symm)
  · refine brT g ?_
    first | exact hr.symm | (cbv; exact hr.symm)

theorem cloneWr_ok (l : List Wr) (hl : l.length ≤ 4294967296) : CallOK Try.prog 54 [.c (.y (.sl 2 (l.map Wr.row)))] ⟨.c (.own 2 (l.map Wr.row)), []⟩ := by
  obtain ⟨xs, hx⟩ : ∃ xs, xs = l.map Wr.row := ⟨_, rfl⟩
  have hxl : xs.length = l.length := by rw [hx, List.length_map]
  rw [← hx]
  obtain ⟨M, hM⟩ := mapEx
  try simp only [hM]
  refine go Try.func54 rfl rfl rfl rfl fun pAdd pSub pMul pQuo pRem pAnd pOr pXor pAndNot pShl pShr pNeg pCompl pConv pLt pLe pEq pSlt pSle pSeq pCat pCatOk pSlen pSsub pSat pIadd pIsub pBnot pBeq pImin pImax pLlen pLsub pLapp pLset pLcopy pLenOk pBytes pRep hF Ca hC r hr => ?_
  cbv
  have g : pLenOk (pLlen xs) = true := lenOkLen hF (by omega)
  refine brkI (fun h => ?_) (fun h => ?_) <;> try cbv
  · have h0 := eqT hF h
    rw [show pLlen xs = Int.ofNat xs.length from llenIs hF xs] at h0
    have h0 : xs = [] := List.eq_nil_of_length_eq_zero (by ((try simp only [Int.ofNat_eq_natCast] at *); omega))
    refine ⟨?_, ?_⟩ <;> cbv
    · rw [hr, h0]
    · refine brT g ?_
      first | exact hr.symm | (cbv; exact hr.symm)
  · refine brT g ?_
    first | exact hr.symm | (cbv; exact hr.symm)

/-- Writes done, so many, of which kp says so. -/
def putsTo (d : Dsk) (kp : Nat → Bool) : Nat → List ByteArray
  | 0 => d.secs
  | n + 1 => if kp n then (putsTo d kp n).set (d.cache.getD n default).at_.toNat (d.cache.getD n default).text else putsTo d kp n
theorem putsTo_len (d : Dsk) (kp : Nat → Bool) : ∀ n, (putsTo d kp n).length = d.secs.length
  | 0 => rfl
  | n + 1 => by
    rw [putsTo]
    cases kp n
    · exact putsTo_len d kp n
    · rw [ite_t rfl, List.length_set]; exact putsTo_len d kp n
theorem putsTo_t {d : Dsk} {kp : Nat → Bool} {n : Nat} (h : kp n = true) : putsTo d kp (n + 1) = (putsTo d kp n).set (d.cache.getD n default).at_.toNat (d.cache.getD n default).text := ite_t h
theorem putsTo_f {d : Dsk} {kp : Nat → Bool} {n : Nat} (h : kp n = false) : putsTo d kp (n + 1) = putsTo d kp n := ite_f h
theorem putsTo_congr {d : Dsk} {k1 k2 : Nat → Bool} : ∀ n, (∀ i, i < n → k1 i = k2 i) → putsTo d k1 n = putsTo d k2 n
  | 0, _ => rfl
  | n + 1, h => by rw [putsTo, putsTo, h n (Nat.lt_succ_self n), putsTo_congr n fun i hi => h i (Nat.lt_succ_of_lt hi)]
theorem diskRight_at {d : Dsk} (h : diskRight d = true) {i : Nat} (hi : i < d.cache.length) : 0 ≤ (d.cache.getD i default).at_ ∧ (d.cache.getD i default).at_ < Int.ofNat d.secs.length ∧ (d.cache.getD i default).text.size = 64 := by
  simp only [diskRight, Bool.and_eq_true] at h
  have := allTo_iff.1 h.2 i hi
  simp only [wrAt, Bool.and_eq_true, decide_eq_true_eq] at this
  exact ⟨this.1.1, this.1.2, this.2⟩
theorem diskRight_lens {d : Dsk} (h : diskRight d = true) : d.secs.length ≤ 700 ∧ d.cache.length ≤ 400 := by
  simp only [diskRight, Bool.and_eq_true, decide_eq_true_eq] at h
  exact h.1.1
/-- One sector written. -/
theorem lset_row {F : Prims} (hF : prims = F) {l : List ByteArray} {zs : List (List Y)} (hz : zs = l.map rowS) (i : Int) (t : ByteArray) : F.lset zs i [yS t] = (l.set i.toNat t).map rowS := by
  subst hF hz
  show (l.map rowS).set i.toNat [yS t] = _
  rw [List.map_set]; rfl
def keepAt (all : Bool) (keep : List Bool) (i : Nat) : Bool := all || (decide (i < keep.length) && keep.getD i false)
theorem l07Flush_ok (d : Dsk) (keep : List Bool) (all : Bool) (hd : diskRight d = true) (hk : keep.length ≤ maxLen) : CallOK Try.prog 48 [.agg [.y (.sl 1 (d.secs.map rowS)), .y (.sl 2 (d.cache.map Wr.row))], .c (.y (.sl 1 (keep.map rowB))), aB all] ⟨.agg [.own 1 ((putsTo d (keepAt all keep) d.cache.length).map rowS), .own 2 []], []⟩ := by
  have hlens := diskRight_lens hd
  have hat := fun i hi => diskRight_at hd (i := i) hi
  obtain ⟨q, hq⟩ : ∃ q, q = (putsTo d (keepAt all keep) d.cache.length).map rowS := ⟨_, rfl⟩
  obtain ⟨xs, hx⟩ : ∃ xs, xs = d.secs.map rowS := ⟨_, rfl⟩
  have hxl : xs.length = d.secs.length := by rw [hx, List.length_map]
  obtain ⟨ws, hws⟩ : ∃ ws, ws = d.cache.map Wr.row := ⟨_, rfl⟩
  have hwl : ws.length = d.cache.length := by rw [hws, List.length_map]
  obtain ⟨ks, hks⟩ : ∃ ks, ks = keep.map rowB := ⟨_, rfl⟩
  have hkl : ks.length = keep.length := by rw [hks, List.length_map]
  rw [maxLen_is] at hk
  rw [← hq, ← hx, ← hws, ← hks]
  obtain ⟨M, hM⟩ := mapEx
  try simp only [hM]
  refine go Try.func48 rfl rfl rfl rfl fun pAdd pSub pMul pQuo pRem pAnd pOr pXor pAndNot pShl pShr pNeg pCompl pConv pLt pLe pEq pSlt pSle pSeq pCat pCatOk pSlen pSsub pSat pIadd pIsub pBnot pBeq pImin pImax pLlen pLsub pLapp pLset pLcopy pLenOk pBytes pRep hF Ca hC r hr => ?_
  cbv
  refine brT (lenOkLen hF (by omega)) ?_
  try cbv
  refine loop_u (α := Nat × List (List Y)) (fun a st => (st.n 8 (Int.ofNat a.1)).ob 7001 (.ar 1 a.2)) (fun a => a.1 ≤ d.cache.length ∧ a.2 = (putsTo d (keepAt all keep) a.1).map rowS) (fun a => d.cache.length - a.1) (0, xs) rfl ⟨by omega, hx⟩ (fun K' hK I a hi ih => ?_)
  obtain ⟨i, zs⟩ := a
  obtain ⟨hi, hz⟩ := hi
  dsimp only at hi hz
  have hzl : zs.length = d.secs.length := by rw [hz, List.length_map, putsTo_len]
  cbv
  refine brkI (fun h => ?_) (fun h => ?_) <;> try cbv
  · have hs : i < d.cache.length := hwl ▸ iltT hF h
    have e1 : pAdd .i64 (Int.ofNat i) 1 = Int.ofNat (i + 1) := add1Is hF (by omega)
    obtain ⟨u, hu⟩ : ∃ u, u = d.cache[i] := ⟨_, rfl⟩
    have hu' : d.cache.getD i default = u := getD_of hs hu
    have hb := hat i hs
    rw [hu'] at hb
    have hjl : u.at_.toNat < (putsTo d (keepAt all keep) i).length := by rw [putsTo_len]; have := hb.2.1; ((try simp only [Int.ofNat_eq_natCast] at *); omega)
    obtain ⟨x0, hx0⟩ : ∃ x0, x0 = (putsTo d (keepAt all keep) i)[u.at_.toNat] := ⟨_, rfl⟩
    have hget : LGet zs u.at_ [yS x0] := ⟨hb.1, row_get hz hjl hx0⟩
    have g1 : pLe 0 u.at_ = true := mkLe hF hb.1
    have g2 : pLt u.at_ (pLlen zs) = true := mkLt hF (by rw [show pLlen zs = Int.ofNat zs.length from llenIs hF zs, hzl]; exact hb.2.1)
    have put : keepAt all keep i = true → pLset zs u.at_ [yS u.text] = (putsTo d (keepAt all keep) (i + 1)).map rowS := fun hk => by
      rw [putsTo_t hk, hu']; exact lset_row hF hz u.at_ u.text
    have not : keepAt all keep i = false → zs = (putsTo d (keepAt all keep) (i + 1)).map rowS := fun hk => by rw [putsTo_f hk, hz]
    have ka : keepAt all keep i = (all || (decide (i < keep.length) && keep.getD i false)) := rfl
    have nxt : ∀ zs', zs' = (putsTo d (keepAt all keep) (i + 1)).map rowS → I ⟨[(1, .c (.y (.sl 1 ks))), (2, .c (.y (.sc (.bool all)))), (3, .c (.pb 3000 0)), (6, .c (.pb 6000 0)), (7, .c (.pb 7000 0)), (8, .c (.y (.sc (.int .i64 (Int.ofNat (i + 1))))))],
        [(3000, .bx [.y (.sl 1 xs), .y (.sl 2 ws)]), (6000, .bx [.aw 6001, .aw 6002]), (6001, .ar 1 []), (6002, .ar 2 []), (7000, .bx [.aw 7001, .aw 7002]), (7001, .ar 1 zs'), (7002, .ar 2 [])]⟩ := fun zs' hz' => ih (i + 1, zs') _ ⟨hs, hz'⟩ (by dsimp only; omega) rfl
    clear ih
    cases all
    all_goals try cbv
    all_goals repeat' (first
      | refine brT g1 ?_
      | refine brT g2 ?_
      | (refine ⟨[yS x0], hget, ?_⟩; cbv)
      | (refine lgetM (fun u => [yN u.at_, yS u.text]) (fun u => by simp only [Wr.row, hM]) hws hs fun v hv => ?_; rw [show v = u from hv.trans hu.symm]; cbv)
      | (refine lgetM (fun u => [yB u]) (fun u => by simp only [rowB]) hks (by have := iltT hF ‹pLt (Int.ofNat i) (pLlen ks) = true›; omega) fun b hb' => ?_; cases b <;> cbv)
      | (refine brkI (fun h3 => ?_) (fun h3 => ?_) <;> try cbv))
    all_goals first
      | (conv => arg 1; cbv
         rw [e1]
         refine nxt _ (put (ka.trans ?_)))
      | (conv => arg 1; cbv
         rw [e1]
         refine nxt _ (not (ka.trans ?_)))
      | skip
    all_goals first
      | rfl
      | (have := iltT hF ‹pLt (Int.ofNat i) (pLlen ks) = true›
         rw [hkl] at this
         rw [decide_eq_true this, getD_of this ‹_ = keep[i]›]; rfl)
      | (have := iltF hF ‹pLt (Int.ofNat i) (pLlen ks) = false›
         rw [hkl] at this
         rw [decide_eq_false (Nat.not_lt.2 this)]; rfl)
  · have hs : i = d.cache.length := Nat.le_antisymm hi (hwl ▸ iltF hF h)
    subst hs
    refine hK _ _ ?_
    cbv
    rw [hr, hq, hz]
theorem has_ok (d : Dsk) (hd : diskRight d = true) : CallOK Try.prog 36 [.io [.y (.sl 1 (d.secs.map rowS)), .y (.sl 2 (d.cache.map Wr.row))]] ⟨.c (.own 1 ((putsTo d (fun _ => true) d.cache.length).map rowS)), [[.y (.sl 1 (d.secs.map rowS)), .y (.sl 2 (d.cache.map Wr.row))]]⟩ := by
  have hlens := diskRight_lens hd
  have hat := fun i hi => diskRight_at hd (i := i) hi
  have c1 := cloneS_ok d.secs (by omega)
  obtain ⟨q, hq⟩ : ∃ q, q = (putsTo d (fun _ => true) d.cache.length).map rowS := ⟨_, rfl⟩
  obtain ⟨xs, hx⟩ : ∃ xs, xs = d.secs.map rowS := ⟨_, rfl⟩
  have hxl : xs.length = d.secs.length := by rw [hx, List.length_map]
  obtain ⟨ws, hws⟩ : ∃ ws, ws = d.cache.map Wr.row := ⟨_, rfl⟩
  have hwl : ws.length = d.cache.length := by rw [hws, List.length_map]
  rw [← hx] at c1
  rw [← hq, ← hx, ← hws]
  obtain ⟨M, hM⟩ := mapEx
  try simp only [hM]
  refine go Try.func36 rfl rfl rfl rfl fun pAdd pSub pMul pQuo pRem pAnd pOr pXor pAndNot pShl pShr pNeg pCompl pConv pLt pLe pEq pSlt pSle pSeq pCat pCatOk pSlen pSsub pSat pIadd pIsub pBnot pBeq pImin pImax pLlen pLsub pLapp pLset pLcopy pLenOk pBytes pRep hF Ca hC r hr => ?_
  cbv
  refine callI hC c1 ?_
  cbv
  refine loop_u (α := Nat × List (List Y)) (fun a st => (st.n 16 (Int.ofNat a.1)).ob 3001 (.ar 1 a.2)) (fun a => a.1 ≤ d.cache.length ∧ a.2 = (putsTo d (fun _ => true) a.1).map rowS) (fun a => d.cache.length - a.1) (0, xs) rfl ⟨by omega, hx⟩ (fun K' hK I a hi ih => ?_)
  obtain ⟨i, zs⟩ := a
  obtain ⟨hi, hz⟩ := hi
  dsimp only at hi hz
  have hzl : zs.length = d.secs.length := by rw [hz, List.length_map, putsTo_len]
  cbv
  refine brkI (fun h => ?_) (fun h => ?_) <;> try cbv
  · have hs : i < d.cache.length := hwl ▸ iltT hF h
    have e1 : pAdd .i64 (Int.ofNat i) 1 = Int.ofNat (i + 1) := add1Is hF (by omega)
    obtain ⟨u, hu⟩ : ∃ u, u = d.cache[i] := ⟨_, rfl⟩
    have hu' : d.cache.getD i default = u := getD_of hs hu
    have hb := hat i hs
    rw [hu'] at hb
    have hjl : u.at_.toNat < (putsTo d (fun _ => true) i).length := by rw [putsTo_len]; have := hb.2.1; ((try simp only [Int.ofNat_eq_natCast] at *); omega)
    obtain ⟨x0, hx0⟩ : ∃ x0, x0 = (putsTo d (fun _ => true) i)[u.at_.toNat] := ⟨_, rfl⟩
    have hget : LGet zs u.at_ [yS x0] := ⟨hb.1, row_get hz hjl hx0⟩
    have g1 : pLe 0 u.at_ = true := mkLe hF hb.1
    have g2 : pLt u.at_ (pLlen zs) = true := mkLt hF (by rw [show pLlen zs = Int.ofNat zs.length from llenIs hF zs, hzl]; exact hb.2.1)
    have put : pLset zs u.at_ [yS u.text] = (putsTo d (fun _ => true) (i + 1)).map rowS := by
      rw [putsTo_t rfl, hu']; exact lset_row hF hz u.at_ u.text
    refine lgetM (fun u => [yN u.at_, yS u.text]) (fun u => by simp only [Wr.row, hM]) hws hs fun v hv => ?_
    rw [show v = u from hv.trans hu.symm]
    cbv
    refine brT g1 (brT g2 ?_)
    refine ⟨[yS x0], hget, ?_⟩
    cbv
    conv => arg 1; cbv
    rw [e1]
    exact ih (i + 1, _) _ ⟨hs, put⟩ (by dsimp only; omega) rfl
  · have hs : i = d.cache.length := Nat.le_antisymm hi (hwl ▸ iltF hF h)
    subst hs
    refine hK _ _ ?_
    cbv
    rw [hr, hq, hz]
/-- A disk of two lists of its own. -/
abbrev ownD (s : List ByteArray) (c : List Wr) : Res := ⟨.agg [.own 1 (s.map rowS), .own 2 (c.map Wr.row)], []⟩
theorem sCopy_ok (d : Dsk) (hm : Dsk.Bd 1048576 d) : CallOK Try.prog 47 [.agg [.y (.sl 1 (d.secs.map rowS)), .y (.sl 2 (d.cache.map Wr.row))]] (ownD d.secs d.cache) := by
  have b1 := hm.1.1
  have b2 := hm.2.1.1
  clear hm
  obtain ⟨xs, hx⟩ : ∃ xs, xs = d.secs.map rowS := ⟨_, rfl⟩
  have hxl : xs.length = d.secs.length := by rw [hx, List.length_map]
  obtain ⟨ws, hws⟩ : ∃ ws, ws = d.cache.map Wr.row := ⟨_, rfl⟩
  have hwl : ws.length = d.cache.length := by rw [hws, List.length_map]
  rw [ownD, ← hx, ← hws]
  obtain ⟨M, hM⟩ := mapEx
  try simp only [hM]
  refine go Try.func47 rfl rfl rfl rfl fun pAdd pSub pMul pQuo pRem pAnd pOr pXor pAndNot pShl pShr pNeg pCompl pConv pLt pLe pEq pSlt pSle pSeq pCat pCatOk pSlen pSsub pSat pIadd pIsub pBnot pBeq pImin pImax pLlen pLsub pLapp pLset pLcopy pLenOk pBytes pRep hF Ca hC r hr => ?_
  cbv
  refine brT (lenOkLen hF (by omega)) ?_
  try cbv
  refine brT (lenOkLen hF (by omega)) ?_
  try cbv
  exact hr.symm
theorem iCopy_ok (d : Dsk) (hm : Dsk.Bd 1048576 d) : CallOK Try.prog 29 [.agg [.y (.sl 1 (d.secs.map rowS)), .y (.sl 2 (d.cache.map Wr.row))]] (ownD d.secs d.cache) := by
  have b1 := hm.1.1
  have b2 := hm.2.1.1
  clear hm
  have c1 := cloneS_ok d.secs (by omega)
  have c2 := cloneWr_ok d.cache (by omega)
  obtain ⟨xs, hx⟩ : ∃ xs, xs = d.secs.map rowS := ⟨_, rfl⟩
  obtain ⟨ws, hws⟩ : ∃ ws, ws = d.cache.map Wr.row := ⟨_, rfl⟩
  rw [← hx] at c1
  rw [← hws] at c2
  rw [ownD, ← hx, ← hws]
  obtain ⟨M, hM⟩ := mapEx
  try simp only [hM]
  refine go Try.func29 rfl rfl rfl rfl fun pAdd pSub pMul pQuo pRem pAnd pOr pXor pAndNot pShl pShr pNeg pCompl pConv pLt pLe pEq pSlt pSle pSeq pCat pCatOk pSlen pSsub pSat pIadd pIsub pBnot pBeq pImin pImax pLlen pLsub pLapp pLset pLcopy pLenOk pBytes pRep hF Ca hC r hr => ?_
  cbv
  refine callI hC c1 ?_
  cbv
  refine callI hC c2 ?_
  cbv
  exact hr.symm
def flush (d : Dsk) : Dsk := if diskRight d then ⟨putsTo d (fun _ => true) d.cache.length, []⟩ else d
theorem flush_t {d : Dsk} (h : diskRight d = true) : flush d = ⟨putsTo d (fun _ => true) d.cache.length, []⟩ := ite_t h
theorem flush_f {d : Dsk} (h : diskRight d = false) : flush d = d := ite_f h
theorem Dsk.big {d : Dsk} (h : Dsk.Bd 1048576 d) : Dsk.Bd maxLen d := ⟨⟨Nat.le_trans h.1.1 (by decide), fun v hv => Nat.le_trans (h.1.2 v hv) (by decide)⟩, ⟨Nat.le_trans h.2.1.1 (by decide), fun v hv => ⟨Nat.le_trans (h.2.1.2 v hv).1 (by decide), trivial⟩⟩, trivial⟩
theorem sFlush_ok (d : Dsk) (hm : Dsk.Bd 1048576 d) : CallOK Try.prog 19 [.agg [.y (.sl 1 (d.secs.map rowS)), .y (.sl 2 (d.cache.map Wr.row))]] (ownD (flush d).secs (flush d).cache) := by
  have c1 := sDiskRight_ok d (Dsk.big hm)
  have c2 := sCopy_ok d hm
  have c3 := fun h => l07Flush_ok d [] true h (Nat.zero_le _)
  have e : ∀ n, putsTo d (keepAt true []) n = putsTo d (fun _ => true) n := fun n => putsTo_congr n fun i hi => rfl
  simp only [e, List.map_nil] at c3
  obtain ⟨f, hf⟩ : ∃ f, f = flush d := ⟨_, rfl⟩
  rw [← hf]
  rw [ownD] at c2 ⊢
  obtain ⟨M, hM⟩ := mapEx
  try simp only [hM]
  refine go Try.func19 rfl rfl rfl rfl fun pAdd pSub pMul pQuo pRem pAnd pOr pXor pAndNot pShl pShr pNeg pCompl pConv pLt pLe pEq pSlt pSle pSeq pCat pCatOk pSlen pSsub pSat pIadd pIsub pBnot pBeq pImin pImax pLlen pLsub pLapp pLset pLcopy pLenOk pBytes pRep hF Ca hC r hr => ?_
  cbv
  refine callB hC (by have hh := c1; (try simp only [hM] at hh); exact hh) (fun h1 => ?_) (fun h1 => ?_) <;> try cbv
  · rw [flush_t h1] at hf
    refine callI hC (by have hh := c3 h1; (try simp only [hM] at hh); exact hh) ?_
    cbv
    rw [hr, hf]
    simp only [← hM]; rfl
  · rw [flush_f h1] at hf
    refine callI hC (by have hh := c2; (try simp only [hM] at hh); exact hh) ?_
    cbv
    rw [hr, hf]
theorem iFlush_ok (d : Dsk) (hm : Dsk.Bd 1048576 d) : CallOK Try.prog 9 [.agg [.y (.sl 1 (d.secs.map rowS)), .y (.sl 2 (d.cache.map Wr.row))]] (ownD (flush d).secs (flush d).cache) := by
  have c1 := iDiskRight_ok d (Dsk.big hm)
  have c2 := iCopy_ok d hm
  have c3 := fun h => has_ok d h
  obtain ⟨f, hf⟩ : ∃ f, f = flush d := ⟨_, rfl⟩
  rw [← hf]
  rw [ownD] at c2 ⊢
  obtain ⟨M, hM⟩ := mapEx
  try simp only [hM]
  refine go Try.func9 rfl rfl rfl rfl fun pAdd pSub pMul pQuo pRem pAnd pOr pXor pAndNot pShl pShr pNeg pCompl pConv pLt pLe pEq pSlt pSle pSeq pCat pCatOk pSlen pSsub pSat pIadd pIsub pBnot pBeq pImin pImax pLlen pLsub pLapp pLset pLcopy pLenOk pBytes pRep hF Ca hC r hr => ?_
  cbv
  refine callB hC (by have hh := c1; (try simp only [hM] at hh); exact hh) (fun h1 => ?_) (fun h1 => ?_) <;> try cbv
  · rw [flush_t h1] at hf
    refine callI hC (by have hh := c3 h1; (try simp only [hM] at hh); exact hh) ?_
    cbv
    rw [hr, hf]
    simp only [← hM]; rfl
  · rw [flush_f h1] at hf
    refine callI hC (by have hh := c2; (try simp only [hM] at hh); exact hh) ?_
    cbv
    rw [hr, hf]
theorem putsTo_bd {d : Dsk} {M : Nat} (h : Dsk.Bd M d) (kp : Nat → Bool) : ∀ n, n ≤ d.cache.length → ∀ u ∈ putsTo d kp n, u.size ≤ M
  | 0, _, u, hu => h.1.2 u hu
  | n + 1, hn, u, hu => by
    cases hk : kp n with
    | false => rw [putsTo_f hk] at hu; exact putsTo_bd h kp n (by omega) u hu
    | true =>
      rw [putsTo_t hk] at hu
      rcases List.mem_or_eq_of_mem_set hu with hu | rfl
      · exact putsTo_bd h kp n (by omega) u hu
      · rw [getD_at (by omega)]
        exact (h.2.1.2 _ (List.getElem_mem (by omega))).1
theorem puts_bd {d : Dsk} {M : Nat} (h : Dsk.Bd M d) (kp : Nat → Bool) : Dsk.Bd M ⟨putsTo d kp d.cache.length, []⟩ := ⟨⟨by rw [putsTo_len]; exact h.1.1, putsTo_bd h kp _ (Nat.le_refl _)⟩, ⟨by simp, by simp⟩, trivial⟩
theorem flush_bd {d : Dsk} {M : Nat} (h : Dsk.Bd M d) : Dsk.Bd M (flush d) := by
  cases hd : diskRight d with
  | true => rw [flush_t hd]; exact puts_bd h _
  | false => rw [flush_f hd]; exact h
end Go.Proofs.Ytngnflfjacappaa
