/- Functions of the program, each with what it returns, run by the evaluator; the conditions stand in the theorems. -/
import Derived.Test.YtemfaiabbonpnaaGreatDoorLRow
namespace Go.Proofs.YtemfaiabbonpnaaGreatDoor
open Go Go.Proofs.YtemfaiabbonpnaaGreatDoorW Go.Proofs
set_option linter.unusedVariables false
set_option linter.unusedSimpArgs false
set_option maxRecDepth 100000
set_option maxHeartbeats 8000000
def noB : ByteArray := ⟨⟨[]⟩⟩
def noSch (s : Sch) : Bool := decide (s.name = noB) && (decide (s.cols.length = 0) && decide (s.key.length = 0) && decide (s.idx.length = 0))
theorem sNoSchema_ok (s : Sch) : CallOK Tryz.prog 70 [.agg [.y (yS s.name), .y (.sl 3 (s.cols.map Col.row)), .y (.sl 1 (s.key.map rowI)), .y (.sl 2 (s.idx.map Idx.row))]] (B (noSch s)) := by
  obtain ⟨q, hq⟩ : ∃ q, q = noSch s := ⟨_, rfl⟩
  obtain ⟨cs, hcs⟩ : ∃ cs, cs = s.cols.map Col.row := ⟨_, rfl⟩
  have hcl : cs.length = s.cols.length := by rw [hcs, List.length_map]
  obtain ⟨ks, hks⟩ : ∃ ks, ks = s.key.map rowI := ⟨_, rfl⟩
  have hkl : ks.length = s.key.length := by rw [hks, List.length_map]
  obtain ⟨ix, hix⟩ : ∃ ix, ix = s.idx.map Idx.row := ⟨_, rfl⟩
  have hil : ix.length = s.idx.length := by rw [hix, List.length_map]
  rw [← hq, ← hcs, ← hks, ← hix]
  obtain ⟨M, hM⟩ := mapEx
  try simp only [hM]
  refine go Tryz.func70 rfl rfl rfl rfl fun pAdd pSub pMul pQuo pRem pAnd pOr pXor pAndNot pShl pShr pNeg pCompl pConv pLt pLe pEq pSlt pSle pSeq pCat pCatOk pSlen pSsub pSat pIadd pIsub pBnot pBeq pImin pImax pLlen pLsub pLapp pLset pLcopy pLenOk pBytes pRep hF Ca hC r hr => ?_
  cbv
  repeat' (refine brkI (fun h => ?_) (fun h => ?_) <;> try cbv)
  all_goals
    have e1 : pLlen cs = Int.ofNat cs.length := llenIs hF cs
    have e2 : pLlen ks = Int.ofNat ks.length := llenIs hF ks
    have e3 : pLlen ix = Int.ofNat ix.length := llenIs hF ix
    refine retB hr (hq.trans ?_)
    rw [noSch]
    clear hC hr hq
    have lD : ∀ a b, pLt a b = decide (a < b) := ltD hF
    have eD : ∀ a b, pLe a b = decide (a ≤ b) := leD hF
    have qD : ∀ a b, pEq a b = decide (a = b) := eqD hF
    have sD : ∀ a b, pSeq a b = decide (a = b) := seqD hF
    simp only [lD, eD, qD, sD, e1, e2, e3, hcl, hkl, hil, noB] at *
    (first | (simp only [Bool.or_eq_true, Bool.and_eq_true, Bool.not_eq_true', Bool.or_eq_false_iff, Bool.and_eq_false_iff, Bool.not_eq_false', decide_eq_true_eq, decide_eq_false_iff_not, Bool.not_false, Bool.not_true, Bool.and_true, Bool.true_and, Bool.or_false, Bool.false_or, and_true, true_and, Int.ofNat_eq_natCast] at *; omega) | (simp only [Bool.eq_false_iff, ne_eq, Bool.or_eq_true, Bool.and_eq_true, Bool.not_eq_true', decide_eq_true_eq, decide_eq_false_iff_not, Bool.not_false, Bool.not_true, Bool.and_true, Bool.true_and, Bool.or_false, Bool.false_or, and_true, true_and, Int.ofNat_eq_natCast] at *; omega) | (simp only [Bool.or_eq_true, Bool.and_eq_true, Bool.not_eq_true', Bool.or_eq_false_iff, Bool.and_eq_false_iff, Bool.not_eq_false', decide_eq_true_eq, decide_eq_false_iff_not, Bool.not_false, Bool.not_true, Bool.and_true, Bool.true_and, Bool.or_false, Bool.false_or, and_true, true_and, Int.ofNat_eq_natCast] at *; grind) | grind)
theorem iNoSchema_ok (s : Sch) (hb : Sch.Bd 1048576 s) : CallOK Tryz.prog 79 [.agg [.y (yS s.name), .y (.sl 3 (s.cols.map Col.row)), .y (.sl 1 (s.key.map rowI)), .y (.sl 2 (s.idx.map Idx.row))]] (B (noSch s)) := by
  have b1 := hb.2.1.1
  have b2 := hb.2.2.1
  have b3 := hb.2.2.2.1.1
  clear hb
  obtain ⟨q, hq⟩ : ∃ q, q = noSch s := ⟨_, rfl⟩
  obtain ⟨cs, hcs⟩ : ∃ cs, cs = s.cols.map Col.row := ⟨_, rfl⟩
  have hcl : cs.length = s.cols.length := by rw [hcs, List.length_map]
  obtain ⟨ks, hks⟩ : ∃ ks, ks = s.key.map rowI := ⟨_, rfl⟩
  have hkl : ks.length = s.key.length := by rw [hks, List.length_map]
  obtain ⟨ix, hix⟩ : ∃ ix, ix = s.idx.map Idx.row := ⟨_, rfl⟩
  have hil : ix.length = s.idx.length := by rw [hix, List.length_map]
  rw [← hq, ← hcs, ← hks, ← hix]
  obtain ⟨M, hM⟩ := mapEx
  try simp only [hM]
  refine go Tryz.func79 rfl rfl rfl rfl fun pAdd pSub pMul pQuo pRem pAnd pOr pXor pAndNot pShl pShr pNeg pCompl pConv pLt pLe pEq pSlt pSle pSeq pCat pCatOk pSlen pSsub pSat pIadd pIsub pBnot pBeq pImin pImax pLlen pLsub pLapp pLset pLcopy pLenOk pBytes pRep hF Ca hC r hr => ?_
  cbv
  repeat' (refine brkI (fun h => ?_) (fun h => ?_) <;> try cbv)
  all_goals
    have e1 : pLlen cs = Int.ofNat cs.length := llenIs hF cs
    have e2 : pLlen ks = Int.ofNat ks.length := llenIs hF ks
    have e3 : pLlen ix = Int.ofNat ix.length := llenIs hF ix
    have e4 : pAdd .i64 (pLlen cs) (pLlen ks) = Int.ofNat (cs.length + ks.length) := by rw [e1, e2]; exact addNIs hF (by omega)
    have e5 : pAdd .i64 (Int.ofNat (cs.length + ks.length)) (pLlen ix) = Int.ofNat (cs.length + ks.length + ix.length) := by rw [e3]; exact addNIs hF (by omega)
    try rw [e4, e5] at h
    refine retB hr (hq.trans ?_)
    rw [noSch]
    clear hC hr hq e4 e5
    have lD : ∀ a b, pLt a b = decide (a < b) := ltD hF
    have eD : ∀ a b, pLe a b = decide (a ≤ b) := leD hF
    have qD : ∀ a b, pEq a b = decide (a = b) := eqD hF
    have sD : ∀ a b, pSeq a b = decide (a = b) := seqD hF
    simp only [lD, eD, qD, sD, e1, e2, e3, hcl, hkl, hil, noB] at *
    (first | (simp only [Bool.or_eq_true, Bool.and_eq_true, Bool.not_eq_true', Bool.or_eq_false_iff, Bool.and_eq_false_iff, Bool.not_eq_false', decide_eq_true_eq, decide_eq_false_iff_not, Bool.not_false, Bool.not_true, Bool.and_true, Bool.true_and, Bool.or_false, Bool.false_or, and_true, true_and, Int.ofNat_eq_natCast] at *; omega) | (simp only [Bool.eq_false_iff, ne_eq, Bool.or_eq_true, Bool.and_eq_true, Bool.not_eq_true', decide_eq_true_eq, decide_eq_false_iff_not, Bool.not_false, Bool.not_true, Bool.and_true, Bool.true_and, Bool.or_false, Bool.false_or, and_true, true_and, Int.ofNat_eq_natCast] at *; omega) | (simp only [Bool.or_eq_true, Bool.and_eq_true, Bool.not_eq_true', Bool.or_eq_false_iff, Bool.and_eq_false_iff, Bool.not_eq_false', decide_eq_true_eq, decide_eq_false_iff_not, Bool.not_false, Bool.not_true, Bool.and_true, Bool.true_and, Bool.or_false, Bool.false_or, and_true, true_and, Int.ofNat_eq_natCast] at *; grind) | grind)
def opOk (o : Opn) : Bool := if o.kind = 1 then schRight o.sch && decide (o.table = noB) && decide (o.row_.length = 0) else if o.kind = 2 ∨ o.kind = 3 ∨ o.kind = 4 then nameRight o.table && noSch o.sch && valsRight o.row_ else false
theorem opOk_1 {o : Opn} (h : o.kind = 1) : opOk o = (schRight o.sch && decide (o.table = noB) && decide (o.row_.length = 0)) := if_pos h
theorem opOk_2 {o : Opn} (h : ¬ o.kind = 1) (h2 : o.kind = 2 ∨ o.kind = 3 ∨ o.kind = 4) : opOk o = (nameRight o.table && noSch o.sch && valsRight o.row_) := (if_neg h).trans (if_pos h2)
theorem opOk_3 {o : Opn} (h : ¬ o.kind = 1) (h2 : ¬ (o.kind = 2 ∨ o.kind = 3 ∨ o.kind = 4)) : opOk o = false := (if_neg h).trans (if_neg h2)
theorem sOp_ok (o : Opn) (hm : Opn.Bd maxLen o) : CallOK Tryz.prog 40 [.agg [.y (yN o.kind), .y (yS o.table), .y (yS o.sch.name), .y (.sl 3 (o.sch.cols.map Col.row)), .y (.sl 1 (o.sch.key.map rowI)), .y (.sl 2 (o.sch.idx.map Idx.row)), .y (.sl 3 (o.row_.map Val.row))]] (B (opOk o)) := by
  have c1 := sSchemaRight_ok o.sch hm.2.1
  have c2 := sNameRight_ok o.table hm.1
  have c3 := sNoSchema_ok o.sch
  have c4 := sValuesRight_ok o.row_
  clear hm
  obtain ⟨q, hq⟩ : ∃ q, q = opOk o := ⟨_, rfl⟩
  obtain ⟨vs, hvs⟩ : ∃ vs, vs = o.row_.map Val.row := ⟨_, rfl⟩
  have hvl : vs.length = o.row_.length := by rw [hvs, List.length_map]
  rw [← hvs] at c4
  rw [← hq, ← hvs]
  obtain ⟨M, hM⟩ := mapEx
  try simp only [hM]
  refine go Tryz.func40 rfl rfl rfl rfl fun pAdd pSub pMul pQuo pRem pAnd pOr pXor pAndNot pShl pShr pNeg pCompl pConv pLt pLe pEq pSlt pSle pSeq pCat pCatOk pSlen pSsub pSat pIadd pIsub pBnot pBeq pImin pImax pLlen pLsub pLapp pLset pLcopy pLenOk pBytes pRep hF Ca hC r hr => ?_
  cbv
  have e1 : pLlen vs = Int.ofNat o.row_.length := by rw [← hvl]; exact llenIs hF vs
  refine brkI (fun k1 => ?_) (fun k1 => ?_) <;> try cbv
  · have k1 := eqT hF k1
    refine callB hC (by have hh := c1; (try simp only [hM] at hh); exact hh) (fun h1 => ?_) (fun h1 => ?_) <;> try cbv
    · repeat' (refine brkI (fun h => ?_) (fun h => ?_) <;> try cbv)
      all_goals
        refine retB hr (hq.trans ((opOk_1 k1).trans ?_))
        rw [h1]
        clear hC hr hq hM c1 c2 c3 c4
        have lD : ∀ a b, pLt a b = decide (a < b) := ltD hF
        have eD : ∀ a b, pLe a b = decide (a ≤ b) := leD hF
        have qD : ∀ a b, pEq a b = decide (a = b) := eqD hF
        have sD : ∀ a b, pSeq a b = decide (a = b) := seqD hF
        simp only [lD, eD, qD, sD, e1, noB] at *
        (first | (simp only [Bool.or_eq_true, Bool.and_eq_true, Bool.not_eq_true', Bool.or_eq_false_iff, Bool.and_eq_false_iff, Bool.not_eq_false', decide_eq_true_eq, decide_eq_false_iff_not, Bool.not_false, Bool.not_true, Bool.and_true, Bool.true_and, Bool.or_false, Bool.false_or, and_true, true_and, Int.ofNat_eq_natCast] at *; omega) | (simp only [Bool.eq_false_iff, ne_eq, Bool.or_eq_true, Bool.and_eq_true, Bool.not_eq_true', decide_eq_true_eq, decide_eq_false_iff_not, Bool.not_false, Bool.not_true, Bool.and_true, Bool.true_and, Bool.or_false, Bool.false_or, and_true, true_and, Int.ofNat_eq_natCast] at *; omega) | (simp only [Bool.or_eq_true, Bool.and_eq_true, Bool.not_eq_true', Bool.or_eq_false_iff, Bool.and_eq_false_iff, Bool.not_eq_false', decide_eq_true_eq, decide_eq_false_iff_not, Bool.not_false, Bool.not_true, Bool.and_true, Bool.true_and, Bool.or_false, Bool.false_or, and_true, true_and, Int.ofNat_eq_natCast] at *; grind) | grind)
    · exact retB hr (hq.trans ((opOk_1 k1).trans (by rw [h1]; rfl)))
  · have k1 := eqF hF k1
    have two : (o.kind = 2 ∨ o.kind = 3 ∨ o.kind = 4) → q = (nameRight o.table && noSch o.sch && valsRight o.row_) := fun h => hq.trans (opOk_2 k1 h)
    refine brkI (fun k2 => ?_) (fun k2 => ?_) <;> try cbv
    rotate_left
    refine brkI (fun k3 => ?_) (fun k3 => ?_) <;> try cbv
    rotate_left
    refine brkI (fun k4 => ?_) (fun k4 => ?_) <;> try cbv
    rotate_left
    · exact retB hr (hq.trans (opOk_3 k1 fun h => h.elim (eqF hF k2) fun h => h.elim (eqF hF k3) (eqF hF k4)))
    all_goals
      have two : q = (nameRight o.table && noSch o.sch && valsRight o.row_) := two (by first | exact .inl (eqT hF k2) | exact .inr (.inl (eqT hF k3)) | exact .inr (.inr (eqT hF k4)))
      refine callB hC c2 (fun h1 => ?_) (fun h1 => ?_) <;> try cbv
      rotate_left
      · exact retB hr (two.trans (by rw [h1]; rfl))
      refine callB hC (by have hh := c3; (try simp only [hM] at hh); exact hh) (fun h2 => ?_) (fun h2 => ?_) <;> try cbv
      rotate_left
      · exact retB hr (two.trans (by rw [h1, h2]; rfl))
      refine callB hC c4 (fun h3 => ?_) (fun h3 => ?_) <;> try cbv
      all_goals exact retB hr (two.trans (by rw [h1, h2, h3]; rfl))
theorem iOp_ok (o : Opn) (hm : Opn.Bd maxLen o) (hb : Opn.Bd 1048576 o) : CallOK Tryz.prog 50 [.agg [.y (yN o.kind), .y (yS o.table), .y (yS o.sch.name), .y (.sl 3 (o.sch.cols.map Col.row)), .y (.sl 1 (o.sch.key.map rowI)), .y (.sl 2 (o.sch.idx.map Idx.row)), .y (.sl 3 (o.row_.map Val.row))]] (B (opOk o)) := by
  have c1 := iSchemaRight_ok o.sch hm.2.1
  have c2 := iNameRight_ok o.table hm.1
  have c3 := iNoSchema_ok o.sch hb.2.1
  have c4 := iValuesRight_ok o.row_ hm.2.2.1.1
  clear hm
  obtain ⟨q, hq⟩ : ∃ q, q = opOk o := ⟨_, rfl⟩
  obtain ⟨vs, hvs⟩ : ∃ vs, vs = o.row_.map Val.row := ⟨_, rfl⟩
  have hvl : vs.length = o.row_.length := by rw [hvs, List.length_map]
  rw [← hvs] at c4
  rw [← hq, ← hvs]
  obtain ⟨M, hM⟩ := mapEx
  try simp only [hM]
  refine go Tryz.func50 rfl rfl rfl rfl fun pAdd pSub pMul pQuo pRem pAnd pOr pXor pAndNot pShl pShr pNeg pCompl pConv pLt pLe pEq pSlt pSle pSeq pCat pCatOk pSlen pSsub pSat pIadd pIsub pBnot pBeq pImin pImax pLlen pLsub pLapp pLset pLcopy pLenOk pBytes pRep hF Ca hC r hr => ?_
  cbv
  have e1 : pLlen vs = Int.ofNat o.row_.length := by rw [← hvl]; exact llenIs hF vs
  refine brkI (fun k1 => ?_) (fun k1 => ?_) <;> try cbv
  · have k1 := eqT hF k1
    refine callB hC (by have hh := c1; (try simp only [hM] at hh); exact hh) (fun h1 => ?_) (fun h1 => ?_) <;> try cbv
    · repeat' (refine brkI (fun h => ?_) (fun h => ?_) <;> try cbv)
      all_goals
        refine retB hr (hq.trans ((opOk_1 k1).trans ?_))
        rw [h1]
        clear hC hr hq hM c1 c2 c3 c4
        have lD : ∀ a b, pLt a b = decide (a < b) := ltD hF
        have eD : ∀ a b, pLe a b = decide (a ≤ b) := leD hF
        have qD : ∀ a b, pEq a b = decide (a = b) := eqD hF
        have sD : ∀ a b, pSeq a b = decide (a = b) := seqD hF
        simp only [lD, eD, qD, sD, e1, noB] at *
        (first | (simp only [Bool.or_eq_true, Bool.and_eq_true, Bool.not_eq_true', Bool.or_eq_false_iff, Bool.and_eq_false_iff, Bool.not_eq_false', decide_eq_true_eq, decide_eq_false_iff_not, Bool.not_false, Bool.not_true, Bool.and_true, Bool.true_and, Bool.or_false, Bool.false_or, and_true, true_and, Int.ofNat_eq_natCast] at *; omega) | (simp only [Bool.eq_false_iff, ne_eq, Bool.or_eq_true, Bool.and_eq_true, Bool.not_eq_true', decide_eq_true_eq, decide_eq_false_iff_not, Bool.not_false, Bool.not_true, Bool.and_true, Bool.true_and, Bool.or_false, Bool.false_or, and_true, true_and, Int.ofNat_eq_natCast] at *; omega) | (simp only [Bool.or_eq_true, Bool.and_eq_true, Bool.not_eq_true', Bool.or_eq_false_iff, Bool.and_eq_false_iff, Bool.not_eq_false', decide_eq_true_eq, decide_eq_false_iff_not, Bool.not_false, Bool.not_true, Bool.and_true, Bool.true_and, Bool.or_false, Bool.false_or, and_true, true_and, Int.ofNat_eq_natCast] at *; grind) | grind)
    · exact retB hr (hq.trans ((opOk_1 k1).trans (by rw [h1]; rfl)))
  · have k1 := eqF hF k1
    have two : (o.kind = 2 ∨ o.kind = 3 ∨ o.kind = 4) → q = (nameRight o.table && noSch o.sch && valsRight o.row_) := fun h => hq.trans (opOk_2 k1 h)
    refine brkI (fun k2 => ?_) (fun k2 => ?_) <;> try cbv
    rotate_left
    refine brkI (fun k3 => ?_) (fun k3 => ?_) <;> try cbv
    rotate_left
    refine brkI (fun k4 => ?_) (fun k4 => ?_) <;> try cbv
    rotate_left
    · exact retB hr (hq.trans (opOk_3 k1 fun h => h.elim (eqF hF k2) fun h => h.elim (eqF hF k3) (eqF hF k4)))
    all_goals
      have two : q = (nameRight o.table && noSch o.sch && valsRight o.row_) := two (by first | exact .inl (eqT hF k2) | exact .inr (.inl (eqT hF k3)) | exact .inr (.inr (eqT hF k4)))
      refine callB hC c2 (fun h1 => ?_) (fun h1 => ?_) <;> try cbv
      rotate_left
      · exact retB hr (two.trans (by rw [h1]; rfl))
      refine callB hC (by have hh := c3; (try simp only [hM] at hh); exact hh) (fun h2 => ?_) (fun h2 => ?_) <;> try cbv
      rotate_left
      · exact retB hr (two.trans (by rw [h1, h2]; rfl))
      refine callB hC c4 (fun h3 => ?_) (fun h3 => ?_) <;> try cbv
      all_goals exact retB hr (two.trans (by rw [h1, h2, h3]; rfl))
def opAt (l : List Opn) (i : Nat) : Bool := opOk (l.getD i default)
def opsRight (l : List Opn) : Bool := decide (1 ≤ l.length) && decide (l.length ≤ 20) && allTo (opAt l) l.length
theorem opsRight_len {l : List Opn} (h : l.length < 1 ∨ 20 < l.length) : opsRight l = false := by
  have : (decide (1 ≤ l.length) && decide (l.length ≤ 20)) = false := by (first | (simp only [Bool.or_eq_true, Bool.and_eq_true, Bool.not_eq_true', Bool.or_eq_false_iff, Bool.and_eq_false_iff, Bool.not_eq_false', decide_eq_true_eq, decide_eq_false_iff_not, Bool.not_false, Bool.not_true, Bool.and_true, Bool.true_and, Bool.or_false, Bool.false_or, and_true, true_and, Int.ofNat_eq_natCast] at *; omega) | (simp only [Bool.eq_false_iff, ne_eq, Bool.or_eq_true, Bool.and_eq_true, Bool.not_eq_true', decide_eq_true_eq, decide_eq_false_iff_not, Bool.not_false, Bool.not_true, Bool.and_true, Bool.true_and, Bool.or_false, Bool.false_or, and_true, true_and, Int.ofNat_eq_natCast] at *; omega) | (simp only [Bool.or_eq_true, Bool.and_eq_true, Bool.not_eq_true', Bool.or_eq_false_iff, Bool.and_eq_false_iff, Bool.not_eq_false', decide_eq_true_eq, decide_eq_false_iff_not, Bool.not_false, Bool.not_true, Bool.and_true, Bool.true_and, Bool.or_false, Bool.false_or, and_true, true_and, Int.ofNat_eq_natCast] at *; grind) | grind)
  rw [opsRight, this]; rfl
theorem opsRight_bad {l : List Opn} {i : Nat} (h : i < l.length) (hp : opAt l i = false) : opsRight l = false := by rw [opsRight, allTo_false h hp, Bool.and_false]
theorem sOpsRight_ok (l : List Opn) (hl : l.length ≤ maxLen) (hb : ∀ v ∈ l, Opn.Bd maxLen v) : CallOK Tryz.prog 16 [.c (.y (.sl 7 (l.map Opn.row)))] (B (opsRight l)) := by
  rw [maxLen_is] at hl
  obtain ⟨q, hq⟩ : ∃ q, q = opsRight l := ⟨_, rfl⟩
  obtain ⟨xs, hx⟩ : ∃ xs, xs = l.map Opn.row := ⟨_, rfl⟩
  have hxl : xs.length = l.length := by rw [hx, List.length_map]
  rw [← hq, ← hx]
  obtain ⟨M, hM⟩ := mapEx
  try simp only [hM]
  refine go Tryz.func16 rfl rfl rfl rfl fun pAdd pSub pMul pQuo pRem pAnd pOr pXor pAndNot pShl pShr pNeg pCompl pConv pLt pLe pEq pSlt pSle pSeq pCat pCatOk pSlen pSsub pSat pIadd pIsub pBnot pBeq pImin pImax pLlen pLsub pLapp pLset pLcopy pLenOk pBytes pRep hF Ca hC r hr => ?_
  cbv
  have e0 : pLlen xs = Int.ofNat l.length := by rw [← hxl]; exact llenIs hF xs
  refine brkI (fun h => ?_) (fun h => ?_) <;> try cbv
  · have h := ltT hF h
    rw [e0] at h
    exact retB hr (hq.trans (opsRight_len (.inl (by ((try simp only [Int.ofNat_eq_natCast] at *); omega)))))
  · have h1 := ltF hF h
    rw [e0] at h1
    refine brkI (fun h => ?_) (fun h => ?_) <;> try cbv
    · have h := ltT hF h
      rw [e0] at h
      exact retB hr (hq.trans (opsRight_len (.inr (by ((try simp only [Int.ofNat_eq_natCast] at *); omega)))))
    · have h2 := ltF hF h
      rw [e0] at h2
      have h1' : 1 ≤ l.length := by ((try simp only [Int.ofNat_eq_natCast] at *); omega)
      have h2' : l.length ≤ 20 := by ((try simp only [Int.ofNat_eq_natCast] at *); omega)
      refine loop_all (fun a st => st.n 3 (Int.ofNat a)) (opAt l) l.length rfl (fun K' hK I i hi hp ih => ?_)
      cbv
      refine brkI (fun h => ?_) (fun h => ?_) <;> try cbv
      · have hs : i < l.length := hxl ▸ iltT hF h
        have e1 : pAdd .i64 (Int.ofNat i) 1 = Int.ofNat (i + 1) := add1Is hF (by omega)
        refine lgetM (fun u => [yN u.kind, yS u.table, yS u.sch.name, .sl 3 (M Col.row u.sch.cols), .sl 1 (M rowI u.sch.key), .sl 2 (M Idx.row u.sch.idx), .sl 3 (M Val.row u.row_)]) (fun u => by simp only [Opn.row, hM]) hx hs fun u hu => ?_
        cbv
        have hu' : opAt l i = opOk u := by rw [opAt, getD_of hs hu]
        refine callB hC (by have hh := sOp_ok u (hu ▸ hb _ (List.getElem_mem hs)); (try simp only [hM] at hh); exact hh) (fun h1 => ?_) (fun h1 => ?_) <;> try cbv
        · conv => arg 1; cbv
          rw [e1]
          exact ih _ hs (hu'.trans h1) rfl
        · refine hK _ _ ?_
          cbv
          exact retB hr (hq.trans (opsRight_bad hs (hu'.trans h1)))
      · have hs : i = l.length := Nat.le_antisymm hi (hxl ▸ iltF hF h)
        subst hs
        refine hK _ _ ?_
        cbv
        refine retB hr (hq.trans ?_)
        rw [opsRight, decide_eq_true h1', decide_eq_true h2', allTo_iff.2 hp]; rfl
theorem notOp_ok (u : Opn) (hm : Opn.Bd maxLen u ∧ Opn.Bd 1048576 u) : CallOK Tryz.prog 49 [.agg [.y (yN u.kind), .y (yS u.table), .y (yS u.sch.name), .y (.sl 3 (u.sch.cols.map Col.row)), .y (.sl 1 (u.sch.key.map rowI)), .y (.sl 2 (u.sch.idx.map Idx.row)), .y (.sl 3 (u.row_.map Val.row))]] (B (!opOk u)) := by
  have hh := iOp_ok u hm.1 hm.2
  obtain ⟨q, hq⟩ : ∃ q, q = opOk u := ⟨_, rfl⟩
  rw [← hq] at hh ⊢
  clear hq
  obtain ⟨M, hM⟩ := mapEx
  try simp only [hM]
  refine go Tryz.func49 rfl rfl rfl rfl fun pAdd pSub pMul pQuo pRem pAnd pOr pXor pAndNot pShl pShr pNeg pCompl pConv pLt pLe pEq pSlt pSle pSeq pCat pCatOk pSlen pSsub pSat pIadd pIsub pBnot pBeq pImin pImax pLlen pLsub pLapp pLset pLcopy pLenOk pBytes pRep hF Ca hC r hr => ?_
  cbv
  refine callB hC (by (try simp only [hM] at hh); exact hh) (fun h1 => ?_) (fun h1 => ?_) <;> try cbv
  all_goals exact retR hr (by rw [h1]; rfl)
theorem notOp_ix (l : List Opn) (hl : l.length ≤ maxLen) (hb : ∀ u ∈ l, Opn.Bd maxLen u ∧ Opn.Bd 1048576 u) : CallOK Tryz.prog 77 [.c (.y (.sl 7 (l.map Opn.row))), .c (.y (.sc (.func (.func 49) ⟨[]⟩ ⟨[]⟩)))] (N (firstTo (fun i => (fun u => !opOk u) (l.getD i default)) l.length)) := by
  rw [maxLen_is] at hl
  obtain ⟨q, hq⟩ : ∃ q, q = firstTo (fun i => (fun u => !opOk u) (l.getD i default)) l.length := ⟨_, rfl⟩
  obtain ⟨xs, hx⟩ : ∃ xs, xs = l.map Opn.row := ⟨_, rfl⟩
  have hxl : xs.length = l.length := by rw [hx, List.length_map]
  rw [← hq, ← hx]
  obtain ⟨M, hM⟩ := mapEx
  try simp only [hM]
  refine go Tryz.func77 rfl rfl rfl rfl fun pAdd pSub pMul pQuo pRem pAnd pOr pXor pAndNot pShl pShr pNeg pCompl pConv pLt pLe pEq pSlt pSle pSeq pCat pCatOk pSlen pSsub pSat pIadd pIsub pBnot pBeq pImin pImax pLlen pLsub pLapp pLset pLcopy pLenOk pBytes pRep hF Ca hC r hr => ?_
  cbv
  refine loop_all (fun a st => st.n 8 (Int.ofNat a)) (fun i => !(fun u => !opOk u) (l.getD i default)) l.length rfl (fun K' hK I i hi hp ih => ?_)
  cbv
  refine brkI (fun h => ?_) (fun h => ?_) <;> try cbv
  · have hs : i < l.length := hxl ▸ iltT hF h
    have e1 : pAdd .i64 (Int.ofNat i) 1 = Int.ofNat (i + 1) := add1Is hF (by omega)
    refine lgetM (fun u => [yN u.kind, yS u.table, yS u.sch.name, .sl 3 (M Col.row u.sch.cols), .sl 1 (M rowI u.sch.key), .sl 2 (M Idx.row u.sch.idx), .sl 3 (M Val.row u.row_)]) (fun u => by simp only [Opn.row, hM]) hx hs fun u hu => ?_
    cbv
    have hu' : l.getD i default = u := getD_of hs hu
    refine callB hC (by have hh := notOp_ok u (hu ▸ hb _ (List.getElem_mem hs)); (try simp only [hM] at hh); exact hh) (fun h1 => ?_) (fun h1 => ?_) <;> try cbv
    · refine hK _ _ ?_
      cbv
      refine retN hr (hq.trans (firstTo_at hs (by rw [hu']; exact h1) fun j hj => ?_))
      exact (Bool.not_eq_true' _).mp (hp j hj)
    · conv => arg 1; cbv
      rw [e1]
      exact ih _ hs (by rw [hu', Bool.not_eq_true']; exact h1) rfl
  · have hs : i = l.length := Nat.le_antisymm hi (hxl ▸ iltF hF h)
    subst hs
    refine hK _ _ ?_
    cbv
    refine retN hr (hq.trans (firstTo_none fun j hj => ?_))
    exact (Bool.not_eq_true' _).mp (hp j hj)
theorem notOp_cf (l : List Opn) (hl : l.length ≤ maxLen) (hb : ∀ u ∈ l, Opn.Bd maxLen u ∧ Opn.Bd 1048576 u) : CallOK Tryz.prog 48 [.c (.y (.sl 7 (l.map Opn.row))), .c (.y (.sc (.func (.func 49) ⟨[]⟩ ⟨[]⟩)))] (B (!allTo (fun i => !(fun u => !opOk u) (l.getD i default)) l.length)) := by
  have hc := notOp_ix l hl hb
  have hh := hasTo_is (fun i => (fun u => !opOk u) (l.getD i default)) l.length
  rw [← hh]
  obtain ⟨q, hq⟩ : ∃ q, q = firstTo (fun i => (fun u => !opOk u) (l.getD i default)) l.length := ⟨_, rfl⟩
  rw [← hq] at hc ⊢
  clear hq hh
  obtain ⟨M, hM⟩ := mapEx
  try simp only [hM]
  refine go Tryz.func48 rfl rfl rfl rfl fun pAdd pSub pMul pQuo pRem pAnd pOr pXor pAndNot pShl pShr pNeg pCompl pConv pLt pLe pEq pSlt pSle pSeq pCat pCatOk pSlen pSsub pSat pIadd pIsub pBnot pBeq pImin pImax pLlen pLsub pLapp pLset pLcopy pLenOk pBytes pRep hF Ca hC r hr => ?_
  cbv
  refine callN hC (by have hh := hc; (try simp only [hM] at hh); exact hh) (fun m hm => ?_)
  cbv
  refine brkI (fun h1 => ?_) (fun h1 => ?_) <;> try cbv
  all_goals exact retR hr (by rw [← hm, ← leD hF 0 m]; exact h1.symm)

theorem iOpsRight_ok (l : List Opn) (hl : l.length ≤ maxLen) (hb : ∀ v ∈ l, Opn.Bd maxLen v) (hb2 : ∀ v ∈ l, Opn.Bd 1048576 v) : CallOK Tryz.prog 23 [.c (.y (.sl 7 (l.map Opn.row)))] (B (opsRight l)) := by
  have hc := notOp_cf l hl (fun u hu => ⟨hb u hu, hb2 u hu⟩)
  have he : allTo (fun i => !(fun u : Opn => !opOk u) (l.getD i default)) l.length = allTo (opAt l) l.length := allTo_congr fun j hj => Bool.not_not _
  rw [he] at hc
  obtain ⟨q, hq⟩ : ∃ q, q = opsRight l := ⟨_, rfl⟩
  obtain ⟨a, ha⟩ : ∃ a, a = allTo (opAt l) l.length := ⟨_, rfl⟩
  obtain ⟨xs, hx⟩ : ∃ xs, xs = l.map Opn.row := ⟨_, rfl⟩
  have hxl : xs.length = l.length := by rw [hx, List.length_map]
  rw [← ha, ← hx] at hc
  rw [← hq, ← hx]
  have hq' : q = (decide (1 ≤ Int.ofNat l.length) && decide (Int.ofNat l.length ≤ 20) && a) := by
    rw [hq, ha, opsRight]
    congr 1
    rw [Bool.eq_iff_iff]
    (first | (simp only [Bool.or_eq_true, Bool.and_eq_true, Bool.not_eq_true', Bool.or_eq_false_iff, Bool.and_eq_false_iff, Bool.not_eq_false', decide_eq_true_eq, decide_eq_false_iff_not, Bool.not_false, Bool.not_true, Bool.and_true, Bool.true_and, Bool.or_false, Bool.false_or, and_true, true_and, Int.ofNat_eq_natCast] at *; omega) | (simp only [Bool.eq_false_iff, ne_eq, Bool.or_eq_true, Bool.and_eq_true, Bool.not_eq_true', decide_eq_true_eq, decide_eq_false_iff_not, Bool.not_false, Bool.not_true, Bool.and_true, Bool.true_and, Bool.or_false, Bool.false_or, and_true, true_and, Int.ofNat_eq_natCast] at *; omega) | (simp only [Bool.or_eq_true, Bool.and_eq_true, Bool.not_eq_true', Bool.or_eq_false_iff, Bool.and_eq_false_iff, Bool.not_eq_false', decide_eq_true_eq, decide_eq_false_iff_not, Bool.not_false, Bool.not_true, Bool.and_true, Bool.true_and, Bool.or_false, Bool.false_or, and_true, true_and, Int.ofNat_eq_natCast] at *; grind) | grind)
  obtain ⟨n, hn⟩ : ∃ n, n = Int.ofNat l.length := ⟨_, rfl⟩
  rw [← hn] at hq'
  have cw := within_ok n 1 20
  obtain ⟨M, hM⟩ := mapEx
  try simp only [hM]
  refine go Tryz.func23 rfl rfl rfl rfl fun pAdd pSub pMul pQuo pRem pAnd pOr pXor pAndNot pShl pShr pNeg pCompl pConv pLt pLe pEq pSlt pSle pSeq pCat pCatOk pSlen pSsub pSat pIadd pIsub pBnot pBeq pImin pImax pLlen pLsub pLapp pLset pLcopy pLenOk pBytes pRep hF Ca hC r hr => ?_
  cbv
  have e0 : pLlen xs = n := by rw [hn, ← hxl]; exact llenIs hF xs
  rw [e0]
  refine callB hC cw (fun h1 => ?_) (fun h1 => ?_) <;> try cbv
  · refine callB hC hc (fun h2 => ?_) (fun h2 => ?_) <;> try cbv
    all_goals
      refine retB hr (hq'.trans ?_)
      rw [h1]
      simpa using h2
  · refine retB hr (hq'.trans ?_)
    rw [h1]; rfl
end Go.Proofs.YtemfaiabbonpnaaGreatDoor
