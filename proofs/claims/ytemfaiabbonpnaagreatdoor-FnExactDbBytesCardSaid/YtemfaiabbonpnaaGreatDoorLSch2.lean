/- Functions of the program, each with what it returns, run by the evaluator; the conditions stand in the theorems. -/
import Derived.Test.YtemfaiabbonpnaaGreatDoorLSchema
namespace Go.Proofs.YtemfaiabbonpnaaGreatDoor
open Go Go.Proofs.YtemfaiabbonpnaaGreatDoorW Go.Proofs
set_option linter.unusedVariables false
set_option linter.unusedSimpArgs false
set_option maxRecDepth 100000
set_option maxHeartbeats 8000000
theorem sSchemaRight_ok (s : Sch) (hm : Sch.Bd maxLen s) : CallOK Tryz.prog 42 [.agg [.y (yS s.name), .y (.sl 3 (s.cols.map Col.row)), .y (.sl 1 (s.key.map rowI)), .y (.sl 2 (s.idx.map Idx.row))]] (B (schRight s)) := by
  have hnm := hm.1
  have hcl := hm.2.1.1
  have hcb := hm.2.1.2
  have hkl := hm.2.2.1
  have hil := hm.2.2.2.1.1
  have hib := hm.2.2.2.1.2
  rw [maxLen_is] at hcl hkl hil
  clear hm
  obtain ⟨q, hq⟩ : ∃ q, q = schRight s := ⟨_, rfl⟩
  obtain ⟨cs, hcs⟩ : ∃ cs, cs = s.cols.map Col.row := ⟨_, rfl⟩
  have hcsl : cs.length = s.cols.length := by rw [hcs, List.length_map]
  obtain ⟨ks, hks⟩ : ∃ ks, ks = s.key.map rowI := ⟨_, rfl⟩
  have hksl : ks.length = s.key.length := by rw [hks, List.length_map]
  obtain ⟨ix, hix⟩ : ∃ ix, ix = s.idx.map Idx.row := ⟨_, rfl⟩
  have hixl : ix.length = s.idx.length := by rw [hix, List.length_map]
  have c1 := sNameRight_ok s.name hnm
  obtain ⟨n, hn⟩ : ∃ n, n = prims.llen cs := ⟨_, rfl⟩
  have hn' : n = Int.ofNat s.cols.length := by rw [hn, ← hcsl]; rfl
  have c2 := sColumns_ok s.key n hkl
  rw [← hq, ← hcs, ← hks, ← hix]
  rw [← hks] at c2
  obtain ⟨M, hM⟩ := mapEx
  try simp only [hM]
  refine go Tryz.func42 rfl rfl rfl rfl fun pAdd pSub pMul pQuo pRem pAnd pOr pXor pAndNot pShl pShr pNeg pCompl pConv pLt pLe pEq pSlt pSle pSeq pCat pCatOk pSlen pSsub pSat pIadd pIsub pBnot pBeq pImin pImax pLlen pLsub pLapp pLset pLcopy pLenOk pBytes pRep hF Ca hC r hr => ?_
  cbv
  have hn2 : pLlen cs = n := by rw [hn, hF]
  rw [hn2]
  have bad : schHead s = false → q = false := fun h => hq.trans (schRight_head h)
  refine callB hC c1 (fun h1 => ?_) (fun h1 => ?_) <;> try cbv
  · refine brkI (fun h2 => ?_) (fun h2 => ?_) <;> try cbv
    · have := ltT hF h2
      rw [hn'] at this
      refine retB hr (bad ?_)
      rw [schHead, decide_eq_false (p := 1 ≤ s.cols.length) (by ((try simp only [Int.ofNat_eq_natCast] at *); omega)), Bool.and_false]; rfl
    have h2' := ltF hF h2
    refine brkI (fun h3 => ?_) (fun h3 => ?_) <;> try cbv
    · have := ltT hF h3
      rw [hn'] at this
      refine retB hr (bad ?_)
      rw [schHead, decide_eq_false (p := s.cols.length ≤ 10) (by ((try simp only [Int.ofNat_eq_natCast] at *); omega)), Bool.and_false]; rfl
    have h3' := ltF hF h3
    refine callB hC c2 (fun h4 => ?_) (fun h4 => ?_) <;> try cbv
    · refine brkI (fun h5 => ?_) (fun h5 => ?_) <;> try cbv
      · have := ltT hF h5
        rw [show pLlen ix = Int.ofNat ix.length from llenIs hF ix, hixl] at this
        refine retB hr (bad ?_)
        rw [schHead, decide_eq_false (p := s.idx.length ≤ 4) (by ((try simp only [Int.ofNat_eq_natCast] at *); omega)), Bool.and_false]
      have h5' := ltF hF h5
      rw [show pLlen ix = Int.ofNat ix.length from llenIs hF ix, hixl] at h5'
      have head : schHead s = true := by
        rw [hn'] at h2' h3' h4
        rw [schHead, h1, decide_eq_true (p := 1 ≤ s.cols.length) (by ((try simp only [Int.ofNat_eq_natCast] at *); omega)), decide_eq_true (p := s.cols.length ≤ 10) (by ((try simp only [Int.ofNat_eq_natCast] at *); omega)), h4, decide_eq_true (p := s.idx.length ≤ 4) (by ((try simp only [Int.ofNat_eq_natCast] at *); omega))]; rfl
      refine loop_all (fun a st => st.n 4 (Int.ofNat a)) (colAt s.cols) s.cols.length rfl (fun K' hK I i hi hp ih => ?_)
      cbv
      refine brkI (fun h => ?_) (fun h => ?_) <;> try cbv
      · have hs : i < s.cols.length := Int.ofNat_lt.1 (by have := ltT hF h; rw [hn'] at this; exact this)
        have e1 : pAdd .i64 (Int.ofNat i) 1 = Int.ofNat (i + 1) := add1Is hF (by omega)
        refine lgetM (fun u => [yS u.name, yN u.kind, yB u.nul]) (fun u => by simp only [Col.row, hM]) hcs hs fun u hu => ?_
        cbv
        have hu' : s.cols.getD i default = u := getD_of hs hu
        have badc : colAt s.cols i = false → q = false := fun h => hq.trans (schRight_col hs h)
        refine callB hC (sNameRight_ok u.name (hu ▸ hcb _ (List.getElem_mem hs)).1) (fun h6 => ?_) (fun h6 => ?_) <;> try cbv
        · refine brkI (fun h7 => ?_) (fun h7 => ?_) <;> try cbv
          · have := ltT hF h7
            refine hK _ _ ?_
            cbv
            refine retB hr (badc ?_)
            rw [colAt, hu', decide_eq_false (p := 1 ≤ u.kind) (by omega), Bool.false_and, Bool.and_false]; rfl
          have h7' := ltF hF h7
          refine brkI (fun h8 => ?_) (fun h8 => ?_) <;> try cbv
          · have := ltT hF h8
            refine hK _ _ ?_
            cbv
            refine retB hr (badc ?_)
            rw [colAt, hu', decide_eq_false (p := u.kind ≤ 3) (by omega), Bool.and_false, Bool.and_false]; rfl
          have h8' := ltF hF h8
          refine loop_all (fun a st => st.n 6 (Int.ofNat a)) (fun k => decide (¬ (s.cols.getD k default).name = u.name)) i rfl (fun K2 hK2 I2 k hk hpk ihk => ?_)
          cbv
          refine brkI (fun h9 => ?_) (fun h9 => ?_) <;> try cbv
          · have hk' : k < i := Int.ofNat_lt.1 (ltT hF h9)
            have e2 : pAdd .i64 (Int.ofNat k) 1 = Int.ofNat (k + 1) := add1Is hF (by omega)
            refine lgetM (fun u => [yS u.name, yN u.kind, yB u.nul]) (fun u => by simp only [Col.row, hM]) hcs (Nat.lt_trans hk' hs) fun v hv => ?_
            cbv
            have hv' : s.cols.getD k default = v := getD_of (Nat.lt_trans hk' hs) hv
            refine brkI (fun h10 => ?_) (fun h10 => ?_) <;> try cbv
            · refine hK2 _ _ ?_
              cbv
              refine hK _ _ ?_
              cbv
              refine retB hr (badc ?_)
              rw [colAt, hu', allTo_false hk' (by rw [hv', seqT hF h10]; simp), Bool.and_false]
            · conv => arg 1; cbv
              rw [e2]
              exact ihk _ hk' (by rw [hv']; exact decide_eq_true (seqF hF h10)) rfl
          · have hk' : k = i := Nat.le_antisymm hk (Int.ofNat_le.1 (ltF hF h9))
            subst hk'
            refine hK2 _ _ ?_
            cbv
            conv => arg 1; cbv
            rw [e1]
            refine ih _ hs ?_ rfl
            rw [colAt, hu', h6, decide_eq_true h7', decide_eq_true h8', allTo_iff.2 hpk]; rfl
        · refine hK _ _ ?_
          cbv
          refine retB hr (badc ?_)
          rw [colAt, hu', h6]; rfl
      · have hs : i = s.cols.length := Nat.le_antisymm hi (Int.ofNat_le.1 (by have := ltF hF h; rw [hn'] at this; exact this))
        have hcols : allTo (colAt s.cols) s.cols.length = true := hs ▸ allTo_iff.2 hp
        clear ih hp hi
        refine hK _ _ ?_
        cbv
        clear hK
        refine loop_all (fun a st => st.n 7 (Int.ofNat a)) (keyAt s) s.key.length rfl (fun K' hK I i hi hp ih => ?_)
        cbv
        refine brkI (fun h => ?_) (fun h => ?_) <;> try cbv
        · have hs : i < s.key.length := hksl ▸ iltT hF h
          have e1 : pAdd .i64 (Int.ofNat i) 1 = Int.ofNat (i + 1) := add1Is hF (by omega)
          refine lgetM (fun u => [yN u]) (fun u => by simp only [rowI]) hks hs fun c hc => ?_
          cbv
          have hcr := colsRight_get h4 hs
          rw [← hc, hn'] at hcr
          obtain ⟨j, hj⟩ := Int.eq_ofNat_of_zero_le hcr.1
          have hjl : j < s.cols.length := by have := hcr.2; rw [hj] at this; exact Int.ofNat_lt.1 this
          rw [show c = Int.ofNat j from hj]
          refine lgetM (fun u => [yS u.name, yN u.kind, yB u.nul]) (fun u => by simp only [Col.row, hM]) hcs hjl fun u hu => ?_
          cbv
          have hat : keyAt s i = !u.nul := by
            rw [keyAt, getD_of hs hc, hj]
            exact congrArg (fun z : Col => !z.nul) (getD_of hjl hu)
          refine brkI (fun h6 => ?_) (fun h6 => ?_) <;> try cbv
          · refine hK _ _ ?_
            cbv
            refine retB hr (hq.trans (schRight_key hs ?_))
            rw [hat, h6]; rfl
          · conv => arg 1; cbv
            rw [e1]
            exact ih _ hs (by rw [hat, h6]; rfl) rfl
        · have hs : i = s.key.length := Nat.le_antisymm hi (hksl ▸ iltF hF h)
          have hkeys : allTo (keyAt s) s.key.length = true := hs ▸ allTo_iff.2 hp
          clear ih hp hi
          refine hK _ _ ?_
          cbv
          clear hK
          refine loop_all (fun a st => st.n 8 (Int.ofNat a)) (idxAt s) s.idx.length rfl (fun K' hK I i hi hp ih => ?_)
          cbv
          refine brkI (fun h => ?_) (fun h => ?_) <;> try cbv
          · have hs : i < s.idx.length := hixl ▸ iltT hF h
            have e1 : pAdd .i64 (Int.ofNat i) 1 = Int.ofNat (i + 1) := add1Is hF (by omega)
            refine lgetM (fun u => [.sl 1 (M rowI u.cols), yB u.uniq]) (fun u => by simp only [Idx.row, hM]) hix hs fun u hu => ?_
            cbv
            have hat : idxAt s i = colsRight u.cols n := by rw [idxAt, getD_of hs hu, hn']
            refine callB hC (by have hh := sColumns_ok u.cols n (hu ▸ hib _ (List.getElem_mem hs)).1; (try simp only [hM] at hh); exact hh) (fun h6 => ?_) (fun h6 => ?_) <;> try cbv
            · conv => arg 1; cbv
              rw [e1]
              exact ih _ hs (hat.trans h6) rfl
            · refine hK _ _ ?_
              cbv
              exact retB hr (hq.trans (schRight_idx hs (hat.trans h6)))
          · have hs : i = s.idx.length := Nat.le_antisymm hi (hixl ▸ iltF hF h)
            have hidx : allTo (idxAt s) s.idx.length = true := hs ▸ allTo_iff.2 hp
            refine hK _ _ ?_
            cbv
            refine retB hr (hq.trans ?_)
            rw [schRight, head, hcols, hkeys, hidx]; rfl
    · refine retB hr (bad ?_)
      rw [hn'] at h4
      rw [schHead, h4, Bool.and_false]; rfl
  · refine retB hr (bad ?_)
    rw [schHead, h1]; rfl
theorem notCols_ok (s : Sch) (u : Idx) (hl : u.cols.length ≤ maxLen) (hc : s.cols.length ≤ maxLen) : CallOK Tryz.prog 84 [.agg [.y (.sl 1 (u.cols.map rowI)), .y (yB u.uniq)], .rp [yS s.name, .sl 3 (s.cols.map Col.row), .sl 1 (s.key.map rowI), .sl 2 (s.idx.map Idx.row)]] (B (!colsRight u.cols (Int.ofNat s.cols.length))) := by
  have c1 := areColumns_ok s u.cols hl hc
  obtain ⟨q, hq⟩ : ∃ q, q = colsRight u.cols (Int.ofNat s.cols.length) := ⟨_, rfl⟩
  rw [← hq] at c1 ⊢
  clear hq
  obtain ⟨M, hM⟩ := mapEx
  try simp only [hM]
  refine go Tryz.func84 rfl rfl rfl rfl fun pAdd pSub pMul pQuo pRem pAnd pOr pXor pAndNot pShl pShr pNeg pCompl pConv pLt pLe pEq pSlt pSle pSeq pCat pCatOk pSlen pSsub pSat pIadd pIsub pBnot pBeq pImin pImax pLlen pLsub pLapp pLset pLcopy pLenOk pBytes pRep hF Ca hC r hr => ?_
  cbv
  refine callB hC (by have hh := c1; (try simp only [hM] at hh); exact hh) (fun h1 => ?_) (fun h1 => ?_) <;> try cbv
  all_goals exact retR hr (by rw [h1]; rfl)
theorem notCols_ix (s : Sch) (l : List Idx) (hl : l.length ≤ maxLen)(hc : s.cols.length ≤ maxLen) (hb : ∀ u ∈ l, u.cols.length ≤ maxLen) : CallOK Tryz.prog 114 [.c (.y (.sl 2 (l.map Idx.row))), .fv 84 [[yS s.name, .sl 3 (s.cols.map Col.row), .sl 1 (s.key.map rowI), .sl 2 (s.idx.map Idx.row)]]] (N (firstTo (fun i => (fun u => !colsRight u.cols (Int.ofNat s.cols.length)) (l.getD i default)) l.length)) := by
  rw [maxLen_is] at hl
  obtain ⟨q, hq⟩ : ∃ q, q = firstTo (fun i => (fun u => !colsRight u.cols (Int.ofNat s.cols.length)) (l.getD i default)) l.length := ⟨_, rfl⟩
  obtain ⟨xs, hx⟩ : ∃ xs, xs = l.map Idx.row := ⟨_, rfl⟩
  have hxl : xs.length = l.length := by rw [hx, List.length_map]
  rw [← hq, ← hx]
  obtain ⟨M, hM⟩ := mapEx
  try simp only [hM]
  refine go Tryz.func114 rfl rfl rfl rfl fun pAdd pSub pMul pQuo pRem pAnd pOr pXor pAndNot pShl pShr pNeg pCompl pConv pLt pLe pEq pSlt pSle pSeq pCat pCatOk pSlen pSsub pSat pIadd pIsub pBnot pBeq pImin pImax pLlen pLsub pLapp pLset pLcopy pLenOk pBytes pRep hF Ca hC r hr => ?_
  cbv
  refine loop_all (fun a st => st.n 8 (Int.ofNat a)) (fun i => !(fun u => !colsRight u.cols (Int.ofNat s.cols.length)) (l.getD i default)) l.length rfl (fun K' hK I i hi hp ih => ?_)
  cbv
  refine brkI (fun h => ?_) (fun h => ?_) <;> try cbv
  · have hs : i < l.length := hxl ▸ iltT hF h
    have e1 : pAdd .i64 (Int.ofNat i) 1 = Int.ofNat (i + 1) := add1Is hF (by omega)
    refine lgetM (fun u => [.sl 1 (M rowI u.cols), yB u.uniq]) (fun u => by simp only [Idx.row, hM]) hx hs fun u hu => ?_
    cbv
    have hu' : l.getD i default = u := getD_of hs hu
    refine callB hC (by have hh := notCols_ok s u (hu ▸ hb _ (List.getElem_mem hs)) hc; (try simp only [hM] at hh); exact hh) (fun h1 => ?_) (fun h1 => ?_) <;> try cbv
    · refine hK _ _ ?_
      cbv
      refine retN hr (hq.trans (firstTo_at hs (by rw [hu']; exact h1) fun j hj => ?_))
      exact (Bool.not_eq_true' _).mp (hp j hj)
    · conv => arg 1; cbv
      rw [e1]
      exact ih _ hs (by rw [hu', Bool.not_eq_true']; exact h1) rfl
  · have hs : i = l.length := Nat.le_antisymm hi (hxl ▸ iltF hF h)
    subst hs
    refine hK _ _ ?_
    cbv
    refine retN hr (hq.trans (firstTo_none fun j hj => ?_))
    exact (Bool.not_eq_true' _).mp (hp j hj)
theorem notCols_cf (s : Sch) (l : List Idx) (hl : l.length ≤ maxLen)(hc : s.cols.length ≤ maxLen) (hb : ∀ u ∈ l, u.cols.length ≤ maxLen) : CallOK Tryz.prog 83 [.c (.y (.sl 2 (l.map Idx.row))), .fv 84 [[yS s.name, .sl 3 (s.cols.map Col.row), .sl 1 (s.key.map rowI), .sl 2 (s.idx.map Idx.row)]]] (B (!allTo (fun i => !(fun u => !colsRight u.cols (Int.ofNat s.cols.length)) (l.getD i default)) l.length)) := by
  have hc := notCols_ix s l hl hc hb
  have hh := hasTo_is (fun i => (fun u => !colsRight u.cols (Int.ofNat s.cols.length)) (l.getD i default)) l.length
  rw [← hh]
  obtain ⟨q, hq⟩ : ∃ q, q = firstTo (fun i => (fun u => !colsRight u.cols (Int.ofNat s.cols.length)) (l.getD i default)) l.length := ⟨_, rfl⟩
  rw [← hq] at hc ⊢
  clear hq hh
  obtain ⟨M, hM⟩ := mapEx
  try simp only [hM]
  refine go Tryz.func83 rfl rfl rfl rfl fun pAdd pSub pMul pQuo pRem pAnd pOr pXor pAndNot pShl pShr pNeg pCompl pConv pLt pLe pEq pSlt pSle pSeq pCat pCatOk pSlen pSsub pSat pIadd pIsub pBnot pBeq pImin pImax pLlen pLsub pLapp pLset pLcopy pLenOk pBytes pRep hF Ca hC r hr => ?_
  cbv
  refine callN hC (by have hh := hc; (try simp only [hM] at hh); exact hh) (fun m hm => ?_)
  cbv
  refine brkI (fun h1 => ?_) (fun h1 => ?_) <;> try cbv
  all_goals exact retR hr (by rw [← hm, ← leD hF 0 m]; exact h1.symm)

theorem colOf_take (l : List Col) (name : ByteArray) (i : Nat) (h : i ≤ l.length) : decide (0 ≤ colOf (l.take i) name) = !allTo (fun k => decide (¬ (l.getD k default).name = name)) i := by
  have := hasTo_is (fun j => decide (((l.take i).getD j default).name = name)) (l.take i).length
  rw [colOf, this]
  have e : (l.take i).length = i := by rw [List.length_take]; omega
  rw [e]
  congr 1
  refine allTo_congr fun j hj => ?_
  have e2 : (l.take i).getD j default = l.getD j default := by
    rw [getD_at (by omega), getD_at (by omega), List.getElem_take]
  rw [e2, decide_not]
theorem iSchemaRight_ok (s : Sch) (hm : Sch.Bd maxLen s) : CallOK Tryz.prog 53 [.agg [.y (yS s.name), .y (.sl 3 (s.cols.map Col.row)), .y (.sl 1 (s.key.map rowI)), .y (.sl 2 (s.idx.map Idx.row))]] (B (schRight s)) := by
  have hnm := hm.1
  have hcl' := hm.2.1.1
  have hcl := hm.2.1.1
  have hcb := hm.2.1.2
  have hkl' := hm.2.2.1
  have hkl := hm.2.2.1
  have hil' := hm.2.2.2.1.1
  have hil := hm.2.2.2.1.1
  have hib := hm.2.2.2.1.2
  rw [maxLen_is] at hcl hkl hil
  clear hm
  obtain ⟨q, hq⟩ : ∃ q, q = schRight s := ⟨_, rfl⟩
  have c1 := iNameRight_ok s.name hnm
  have c2 := areColumns_ok s s.key hkl' hcl'
  have c4 := notCols_cf s s.idx hil' hcl' (fun u hu => (hib u hu).1)
  obtain ⟨cs, hcs⟩ : ∃ cs, cs = s.cols.map Col.row := ⟨_, rfl⟩
  have hcsl : cs.length = s.cols.length := by rw [hcs, List.length_map]
  obtain ⟨ks, hks⟩ : ∃ ks, ks = s.key.map rowI := ⟨_, rfl⟩
  have hksl : ks.length = s.key.length := by rw [hks, List.length_map]
  obtain ⟨ix, hix⟩ : ∃ ix, ix = s.idx.map Idx.row := ⟨_, rfl⟩
  have hixl : ix.length = s.idx.length := by rw [hix, List.length_map]
  obtain ⟨n, hn⟩ : ∃ n, n = prims.llen cs := ⟨_, rfl⟩
  have hn' : n = Int.ofNat s.cols.length := by rw [hn, ← hcsl]; rfl
  have c3 := within_ok n 1 10
  rw [← hq, ← hcs, ← hks, ← hix]
  rw [← hcs, ← hks, ← hix] at c2 c4
  obtain ⟨M, hM⟩ := mapEx
  try simp only [hM]
  refine go Tryz.func53 rfl rfl rfl rfl fun pAdd pSub pMul pQuo pRem pAnd pOr pXor pAndNot pShl pShr pNeg pCompl pConv pLt pLe pEq pSlt pSle pSeq pCat pCatOk pSlen pSsub pSat pIadd pIsub pBnot pBeq pImin pImax pLlen pLsub pLapp pLset pLcopy pLenOk pBytes pRep hF Ca hC r hr => ?_
  cbv
  have hn2 : pLlen cs = n := by rw [hn, hF]
  have bad : schHead s = false → q = false := fun h => hq.trans (schRight_head h)
  refine callB hC c1 (fun h1 => ?_) (fun h1 => ?_) <;> try cbv
  · rw [hn2]
    refine callB hC c3 (fun h2 => ?_) (fun h2 => ?_) <;> try cbv
    · refine brkI (fun h5 => ?_) (fun h5 => ?_) <;> try cbv
      · have := ltT hF h5
        rw [show pLlen ix = Int.ofNat ix.length from llenIs hF ix, hixl] at this
        refine retB hr (bad ?_)
        rw [schHead, decide_eq_false (p := s.idx.length ≤ 4) (by ((try simp only [Int.ofNat_eq_natCast] at *); omega)), Bool.and_false]
      have h5' := ltF hF h5
      rw [show pLlen ix = Int.ofNat ix.length from llenIs hF ix, hixl] at h5'
      refine callB hC c2 (fun h4 => ?_) (fun h4 => ?_) <;> try cbv
      · have head : schHead s = true := by
          rw [hn'] at h2
          rw [Bool.and_eq_true, decide_eq_true_iff, decide_eq_true_iff] at h2
          rw [schHead, h1, decide_eq_true (p := 1 ≤ s.cols.length) (by ((try simp only [Int.ofNat_eq_natCast] at *); omega)), decide_eq_true (p := s.cols.length ≤ 10) (by ((try simp only [Int.ofNat_eq_natCast] at *); omega)), h4, decide_eq_true (p := s.idx.length ≤ 4) (by ((try simp only [Int.ofNat_eq_natCast] at *); omega))]; rfl
        try rw [hn2]
        refine loop_all (fun a st => st.n 34 (Int.ofNat a)) (colAt s.cols) s.cols.length rfl (fun K' hK I i hi hp ih => ?_)
        cbv
        refine brkI (fun h => ?_) (fun h => ?_) <;> try cbv
        · have hs : i < s.cols.length := Int.ofNat_lt.1 (by have := ltT hF h; rw [hn'] at this; exact this)
          have e1 : pAdd .i64 (Int.ofNat i) 1 = Int.ofNat (i + 1) := add1Is hF (by omega)
          refine lgetM (fun u => [yS u.name, yN u.kind, yB u.nul]) (fun u => by simp only [Col.row, hM]) hcs hs fun u hu => ?_
          cbv
          have hu' : s.cols.getD i default = u := getD_of hs hu
          have badc : colAt s.cols i = false → q = false := fun h => hq.trans (schRight_col hs h)
          refine callB hC (iNameRight_ok u.name (hu ▸ hcb _ (List.getElem_mem hs)).1) (fun h6 => ?_) (fun h6 => ?_) <;> try cbv
          · refine callB hC (within_ok u.kind 1 3) (fun h7 => ?_) (fun h7 => ?_) <;> try cbv
            · rw [hn2]
              refine brT (zeroLe hF i) (brT (mkLe hF ?_) ?_)
              · rw [hn']; exact Int.ofNat_le.2 hi
              · rw [show pLsub cs 0 (pIsub (Int.ofNat i) 0) = (s.cols.take i).map Col.row from lsubTake hF hcs i]
                refine callN hC (columnOf_ok ⟨⟨⟨[]⟩⟩, s.cols.take i, [], []⟩ u.name (by rw [maxLen_is, List.length_take]; omega)) (fun m hm => ?_)
                cbv
                have hm' : decide (0 ≤ m) = !allTo (fun k => decide (¬ (s.cols.getD k default).name = u.name)) i := by rw [hm]; exact colOf_take s.cols u.name i hi
                refine brkI (fun h8 => ?_) (fun h8 => ?_) <;> try cbv
                · refine hK _ _ ?_
                  cbv
                  refine retB hr (badc ?_)
                  rw [show pLe 0 m = decide (0 ≤ m) from leD hF .., hm', Bool.not_eq_true'] at h8
                  rw [colAt, hu', h8, Bool.and_false]
                · conv => arg 1; cbv
                  rw [e1]
                  refine ih _ hs ?_ rfl
                  rw [show pLe 0 m = decide (0 ≤ m) from leD hF .., hm', Bool.not_eq_false'] at h8
                  rw [colAt, hu', h6, h7, h8]; rfl
            · refine hK _ _ ?_
              cbv
              refine retB hr (badc ?_)
              rw [colAt, hu', h7, Bool.and_false]; rfl
          · refine hK _ _ ?_
            cbv
            refine retB hr (badc ?_)
            rw [colAt, hu', h6]; rfl
        · have hs : i = s.cols.length := Nat.le_antisymm hi (Int.ofNat_le.1 (by have := ltF hF h; rw [hn'] at this; exact this))
          have hcols : allTo (colAt s.cols) s.cols.length = true := hs ▸ allTo_iff.2 hp
          clear ih hp hi
          refine hK _ _ ?_
          cbv
          clear hK
          refine loop_all (fun a st => st.n 64 (Int.ofNat a)) (keyAt s) s.key.length rfl (fun K' hK I i hi hp ih => ?_)
          cbv
          refine brkI (fun h => ?_) (fun h => ?_) <;> try cbv
          · have hs : i < s.key.length := hksl ▸ iltT hF h
            have e1 : pAdd .i64 (Int.ofNat i) 1 = Int.ofNat (i + 1) := add1Is hF (by omega)
            refine lgetM (fun u => [yN u]) (fun u => by simp only [rowI]) hks hs fun c hc => ?_
            cbv
            have hcr := colsRight_get h4 hs
            rw [← hc] at hcr
            obtain ⟨j, hj⟩ := Int.eq_ofNat_of_zero_le hcr.1
            have hjl : j < s.cols.length := by have := hcr.2; rw [hj] at this; exact Int.ofNat_lt.1 this
            rw [show c = Int.ofNat j from hj]
            refine lgetM (fun u => [yS u.name, yN u.kind, yB u.nul]) (fun u => by simp only [Col.row, hM]) hcs hjl fun u hu => ?_
            cbv
            have hat : keyAt s i = !u.nul := by
              rw [keyAt, getD_of hs hc, hj]
              exact congrArg (fun z : Col => !z.nul) (getD_of hjl hu)
            refine brkI (fun h6 => ?_) (fun h6 => ?_) <;> try cbv
            · refine hK _ _ ?_
              cbv
              refine retB hr (hq.trans (schRight_key hs ?_))
              rw [hat, h6]; rfl
            · conv => arg 1; cbv
              rw [e1]
              exact ih _ hs (by rw [hat, h6]; rfl) rfl
          · have hs : i = s.key.length := Nat.le_antisymm hi (hksl ▸ iltF hF h)
            have hkeys : allTo (keyAt s) s.key.length = true := hs ▸ allTo_iff.2 hp
            clear ih hp hi
            refine hK _ _ ?_
            cbv
            clear hK
            have hidx : allTo (fun i => !(fun u : Idx => !colsRight u.cols (Int.ofNat s.cols.length)) (s.idx.getD i default)) s.idx.length = allTo (idxAt s) s.idx.length := allTo_congr fun j hj => Bool.not_not _
            refine callB hC c4 (fun h6 => ?_) (fun h6 => ?_) <;> try cbv
            all_goals
              rw [hidx] at h6
              refine retB hr (hq.trans ?_)
              rw [schRight, head, hcols, hkeys]
              simp only [Bool.not_eq_true', Bool.not_eq_false'] at h6
              rw [h6]; rfl
      · refine retB hr (bad ?_)
        rw [schHead, h4, Bool.and_false]; rfl
    · refine retB hr (bad ?_)
      rw [hn'] at h2
      have : (decide (1 ≤ s.cols.length) && decide (s.cols.length ≤ 10)) = false := by (first | (simp only [Bool.or_eq_true, Bool.and_eq_true, Bool.not_eq_true', Bool.or_eq_false_iff, Bool.and_eq_false_iff, Bool.not_eq_false', decide_eq_true_eq, decide_eq_false_iff_not, Bool.not_false, Bool.not_true, Bool.and_true, Bool.true_and, Bool.or_false, Bool.false_or, and_true, true_and, Int.ofNat_eq_natCast] at *; omega) | (simp only [Bool.eq_false_iff, ne_eq, Bool.or_eq_true, Bool.and_eq_true, Bool.not_eq_true', decide_eq_true_eq, decide_eq_false_iff_not, Bool.not_false, Bool.not_true, Bool.and_true, Bool.true_and, Bool.or_false, Bool.false_or, and_true, true_and, Int.ofNat_eq_natCast] at *; omega) | (simp only [Bool.or_eq_true, Bool.and_eq_true, Bool.not_eq_true', Bool.or_eq_false_iff, Bool.and_eq_false_iff, Bool.not_eq_false', decide_eq_true_eq, decide_eq_false_iff_not, Bool.not_false, Bool.not_true, Bool.and_true, Bool.true_and, Bool.or_false, Bool.false_or, and_true, true_and, Int.ofNat_eq_natCast] at *; grind) | grind)
      rw [schHead, Bool.and_assoc (nameRight s.name), this, Bool.and_false]; rfl
  · refine retB hr (bad ?_)
    rw [schHead, h1]; rfl
end Go.Proofs.YtemfaiabbonpnaaGreatDoor
