/- Functions of the program, each with what it returns, run by the evaluator; the conditions stand in the theorems. -/
import Derived.Test.YtemfaiabbonpnaaGreatDoorLSBy
namespace Go.Proofs.YtemfaiabbonpnaaGreatDoor
open Go Go.Proofs.YtemfaiabbonpnaaGreatDoorW Go.Proofs
set_option linter.unusedVariables false
set_option linter.unusedSimpArgs false
set_option maxRecDepth 100000
set_option maxHeartbeats 1600000
theorem sSchemaBytes_ok (s : Sch) (hm : Sch.Bd 1048576 s) (hg : Sch.Rg s) (hM' : Sch.Bd maxLen s) : CallOK Tryz.prog 19 [.agg [.y (yS s.name), .y (.sl 3 (s.cols.map Col.row)), .y (.sl 1 (s.key.map rowI)), .y (.sl 2 (s.idx.map Idx.row))]] (St (schBytes s)) := by
  have cS := sSchemaRight_ok s hM'
  have cT := sPutText_ok
  have cN := sPutNum_ok
  have cB := l03Bool_ok
  have cK := l03Nums_ok
  have kl := hm.2.2.1
  have kr := hg.2.1
  have zT := putText_size
  have zN : ∀ n, I64 n → (putNum n).size ≤ 10 := putNum_size
  have zB := bitB_size
  have zK : ∀ l : List Int, l.length ≤ 1048576 → (∀ v ∈ l, I64 v) → (numsB l).size ≤ 11000000 := fun l => numsB_size
  have zC : schRight s = true → ∀ i, i ≤ s.cols.length → (colsTo s i).size ≤ 20030 * (i + 1) := fun h => colsTo_size (by have := (schRight_small h).1; omega) hg
  have zX : schRight s = true → ∀ i, i ≤ s.idx.length → (idxTo s i).size ≤ 11300000 * (i + 1) := fun h => idxTo_size hm hg (schRight_small h).1
  have hsm := fun h => @schRight_small s h
  have C0 : colsTo s 0 = putText s.name ++ putNum (Int.ofNat s.cols.length) := rfl
  have C1 : ∀ i u, s.cols[i]? = some u → colsTo s (i + 1) = colsTo s i ++ putText u.name ++ putNum u.kind ++ bitB u.nul := fun i u h => by
    rw [colsTo, colB, List.getD_eq_getElem?_getD, h, ByteArray.append_assoc, ByteArray.append_assoc, ByteArray.append_assoc]; rfl
  have X0 : idxTo s 0 = colsTo s s.cols.length ++ numsB s.key ++ putNum (Int.ofNat s.idx.length) := by rw [idxTo, ByteArray.append_assoc]
  have X1 : ∀ i u, s.idx[i]? = some u → idxTo s (i + 1) = idxTo s i ++ numsB u.cols ++ bitB u.uniq := fun i u h => by
    rw [idxTo, idxB, List.getD_eq_getElem?_getD, h, ByteArray.append_assoc]; rfl
  have qt : schRight s = true → schBytes s = idxTo s s.idx.length := fun h => by rw [schBytes, ite_t h]
  have qf : schRight s = false → schBytes s = ⟨⟨[]⟩⟩ := fun h => by rw [schBytes, ite_f h]
  have ck : ∀ u ∈ s.cols, I64 u.kind := fun u hu => (hg.1 u hu).1
  have xl : ∀ u ∈ s.idx, u.cols.length ≤ 1048576 ∧ ∀ v ∈ u.cols, I64 v := fun u hu => ⟨(hm.2.2.2.1.2 u hu).1, (hg.2.2.1 u hu).1⟩
  have cKk := cK s.key kl kr
  have zKk := zK s.key kl kr
  obtain ⟨nk, hnk⟩ : ∃ nk, nk = numsB s.key := ⟨_, rfl⟩
  obtain ⟨Cf, hCf⟩ : ∃ f, f = colsTo s := ⟨_, rfl⟩
  obtain ⟨Xf, hXf⟩ : ∃ f, f = idxTo s := ⟨_, rfl⟩
  obtain ⟨q, hq⟩ : ∃ q, q = schBytes s := ⟨_, rfl⟩
  rw [← hCf] at zC C0 C1 X0
  rw [← hXf] at zX X0 X1 qt
  rw [← hq] at qt qf ⊢
  rw [← hnk] at cKk zKk X0
  clear hCf hXf hq hnk
  obtain ⟨pn, hpn⟩ : ∃ f, f = putNum := ⟨_, rfl⟩
  obtain ⟨pt, hpt⟩ : ∃ f, f = putText := ⟨_, rfl⟩
  obtain ⟨nb, hnb⟩ : ∃ f, f = numsB := ⟨_, rfl⟩
  obtain ⟨bb, hbb⟩ : ∃ f, f = bitB := ⟨_, rfl⟩
  rw [← hpn] at cN zN C0 C1 X0
  rw [← hpt] at cT zT C0 C1
  rw [← hnb] at cK zK X1
  rw [← hbb] at cB zB C1 X1
  obtain ⟨R, hR⟩ : ∃ R, R = schRight s := ⟨_, rfl⟩
  rw [← hR] at cS zC zX hsm qt qf
  clear hpn hpt hnb hbb hR
  obtain ⟨cs, hcs⟩ : ∃ cs, cs = s.cols.map Col.row := ⟨_, rfl⟩
  have hcsl : cs.length = s.cols.length := by rw [hcs, List.length_map]
  obtain ⟨ks, hks⟩ : ∃ ks, ks = s.key.map rowI := ⟨_, rfl⟩
  obtain ⟨ix, hix⟩ : ∃ ix, ix = s.idx.map Idx.row := ⟨_, rfl⟩
  have hixl : ix.length = s.idx.length := by rw [hix, List.length_map]
  rw [← hcs, ← hks, ← hix] at cS ⊢
  rw [← hks] at cKk
  obtain ⟨nm, hnm⟩ : ∃ nm, nm = s.name := ⟨_, rfl⟩
  rw [← hnm] at cS C0 ⊢
  obtain ⟨nc, hnc⟩ : ∃ n, n = s.cols.length := ⟨_, rfl⟩
  obtain ⟨ni, hni⟩ : ∃ n, n = s.idx.length := ⟨_, rfl⟩
  rw [← hnc] at hcsl zC hsm C0 X0
  rw [← hni] at hixl zX hsm X0 qt
  clear hm hg hM' hks hnm
  obtain ⟨M, hM⟩ := mapEx
  try simp only [hM]
  refine go Tryz.func19 rfl rfl rfl rfl fun pAdd pSub pMul pQuo pRem pAnd pOr pXor pAndNot pShl pShr pNeg pCompl pConv pLt pLe pEq pSlt pSle pSeq pCat pCatOk pSlen pSsub pSat pIadd pIsub pBnot pBeq pImin pImax pLlen pLsub pLapp pLset pLcopy pLenOk pBytes pRep hF Ca hC r hr => ?_
  cbv
  refine callB hC cS (fun hR => ?_) (fun hR => ?_)
  rotate_left
  · cbv
    exact retS hr (qf hR)
  cbv
  subst hR
  have zC := zC rfl
  have zX := zX rfl
  have qt := qt rfl
  obtain ⟨nc10, ni4⟩ := hsm rfl
  clear qf hsm
  have ec : pLlen cs = Int.ofNat nc := (llenIs hF _).trans (by rw [hcsl]; rfl)
  have ei : pLlen ix = Int.ofNat ni := (llenIs hF _).trans (by rw [hixl]; rfl)
  have ev : ∀ n : Nat, n ≤ 1000 → pConv .i64 (Int.ofNat n) = Int.ofNat n := fun n h => by cases hF; exact wrap_i64 (by ((try simp only [Int.ofNat_eq_natCast] at *); omega)) (by ((try simp only [Int.ofNat_eq_natCast] at *); omega))
  have cok : ∀ a b : ByteArray, a.size + b.size ≤ 9223372036854775807 → pCatOk a b = true := fun a b h => catOkIs hF h
  have ecat : ∀ a b : ByteArray, pCat a b = a ++ b := catIs hF
  refine callI hC (cT nm) ?_
  obtain ⟨b1, hb1⟩ : ∃ b, b = pt nm := ⟨_, rfl⟩
  have zb1 := zT nm
  rw [← hb1] at zb1 C0 ⊢
  cbv
  rw [ec]
  try rw [ev nc (by omega)]
  refine callI hC (cN _ (i64nat (by omega))) ?_
  obtain ⟨b2, hb2⟩ : ∃ b, b = pn (Int.ofNat nc) := ⟨_, rfl⟩
  have zb2 := zN _ (i64nat (show nc ≤ 9223372036854775807 by omega))
  rw [← hb2] at zb2 C0 ⊢
  cbv
  refine brT (cok _ _ (by omega)) ?_
  try cbv
  obtain ⟨t0, ht0⟩ : ∃ t, t = pCat b1 b2 := ⟨_, rfl⟩
  rw [← ht0]
  have ht0 : t0 = Cf 0 := by rw [ht0, C0]; exact ecat _ _
  refine loop_u (α := Nat × ByteArray) (fun (i, t) st => (st.n 4 (Int.ofNat i)).str 3 t) (fun x => x.1 ≤ nc ∧ x.2 = Cf x.1) (fun x => nc - x.1) (0, t0) rfl ⟨Nat.zero_le _, ht0⟩ (fun K' hK I x hx' ih => ?_)
  obtain ⟨i, t⟩ := x
  obtain ⟨hi', ht⟩ := hx'
  dsimp only at hi' ht
  cbv
  rw [ec]
  have hts := zC i hi'
  rw [← ht] at hts
  refine brkI (fun h => ?_) (fun h => ?_) <;> try cbv
  · have h := ltT hF h
    have hs : i < s.cols.length := by ((try simp only [Int.ofNat_eq_natCast] at *); omega)
    have e1 : pAdd .i64 (Int.ofNat i) 1 = Int.ofNat (i + 1) := add1Is hF (by omega)
    obtain ⟨u, hu⟩ : ∃ u, u = s.cols[i] := ⟨_, rfl⟩
    have hu2 : s.cols[i]? = some u := by rw [List.getElem?_eq_getElem hs, hu]
    have cu := C1 i u hu2
    have hk := ck u (hu ▸ List.getElem_mem hs)
    have hl : LGet cs (Int.ofNat i) [yS u.name, yN u.kind, yB u.nul] := ⟨Int.natCast_nonneg i, by rw [show (Int.ofNat i).toNat = i from rfl, hcs, List.getElem?_map, hu2]; rfl⟩
    obtain ⟨un, hun⟩ : ∃ x, x = u.name := ⟨_, rfl⟩
    obtain ⟨uk, huk⟩ : ∃ x, x = u.kind := ⟨_, rfl⟩
    obtain ⟨ub, hub⟩ : ∃ x, x = u.nul := ⟨_, rfl⟩
    rw [← hun, ← huk, ← hub] at cu hl
    rw [← huk] at hk
    refine Exists.intro [yS un, yN uk, yB ub] ?_
    cbv
    refine And.intro hl ?_
    refine callI hC (cT un) ?_
    obtain ⟨d1, hd1⟩ : ∃ b, b = pt un := ⟨_, rfl⟩
    have zd1 := zT un
    rw [← hd1] at zd1 cu ⊢
    cbv
    refine brT (cok _ _ (by omega)) ?_
    try cbv
    refine Exists.intro [yS un, yN uk, yB ub] ?_
    cbv
    refine And.intro hl ?_
    refine callI hC (cN uk hk) ?_
    obtain ⟨d2, hd2⟩ : ∃ b, b = pn uk := ⟨_, rfl⟩
    have zd2 := zN _ hk
    rw [← hd2] at zd2 cu ⊢
    cbv
    refine brT (cok _ _ (by rw [ecat, ByteArray.size_append]; omega)) ?_
    try cbv
    refine Exists.intro [yS un, yN uk, yB ub] ?_
    cbv
    refine And.intro hl ?_
    refine callI hC (cB ub) ?_
    obtain ⟨d3, hd3⟩ : ∃ b, b = bb ub := ⟨_, rfl⟩
    have zd3 := zB ub
    rw [← hd3] at zd3 cu ⊢
    cbv
    refine brT (cok _ _ (by rw [ecat, ecat, ByteArray.size_append, ByteArray.size_append]; omega)) ?_
    try cbv
    conv => arg 1; cbv
    rw [e1]
    refine ih (i + 1, _) _ ⟨by dsimp only; omega, ?_⟩ (by dsimp only; omega) rfl
    dsimp only
    rw [cu, ← ht]
    exact (ecat _ _).trans (by rw [ecat, ecat])
  have h := ltF hF h
  have hin : i = nc := by ((try simp only [Int.ofNat_eq_natCast] at *); omega)
  refine hK _ _ ?_
  cbv
  refine callI hC cKk ?_
  cbv
  refine brT (cok _ _ (by omega)) ?_
  try cbv
  rw [ei]
  try rw [ev ni (by omega)]
  refine callI hC (cN _ (i64nat (by omega))) ?_
  obtain ⟨b3, hb3⟩ : ∃ b, b = pn (Int.ofNat ni) := ⟨_, rfl⟩
  have zb3 := zN _ (i64nat (show ni ≤ 9223372036854775807 by omega))
  rw [← hb3] at zb3 X0 ⊢
  cbv
  refine brT (cok _ _ (by rw [ecat, ByteArray.size_append]; omega)) ?_
  try cbv
  obtain ⟨t1, ht1⟩ : ∃ x, x = pCat (pCat t nk) b3 := ⟨_, rfl⟩
  rw [← ht1]
  have ht1 : t1 = Xf 0 := by rw [ht1, X0, ← hin, ← ht, ecat, ecat]
  refine loop_u (α := Nat × ByteArray) (fun (i, t) st => (st.n 5 (Int.ofNat i)).str 3 t) (fun x => x.1 ≤ ni ∧ x.2 = Xf x.1) (fun x => ni - x.1) (0, t1) rfl ⟨Nat.zero_le _, ht1⟩ (fun K2 hK2 J x hx' jh => ?_)
  clear ht hts hi' h hin
  obtain ⟨i, t⟩ := x
  obtain ⟨hi', ht⟩ := hx'
  dsimp only at hi' ht
  cbv
  rw [ei]
  have hts := zX i hi'
  rw [← ht] at hts
  refine brkI (fun h => ?_) (fun h => ?_) <;> try cbv
  · have h := ltT hF h
    have hs : i < s.idx.length := by ((try simp only [Int.ofNat_eq_natCast] at *); omega)
    have e1 : pAdd .i64 (Int.ofNat i) 1 = Int.ofNat (i + 1) := add1Is hF (by omega)
    obtain ⟨u, hu⟩ : ∃ u, u = s.idx[i] := ⟨_, rfl⟩
    have hu2 : s.idx[i]? = some u := by rw [List.getElem?_eq_getElem hs, hu]
    have cu := X1 i u hu2
    have hk := xl u (hu ▸ List.getElem_mem hs)
    have cKu := cK u.cols hk.1 hk.2
    have zKu := zK u.cols hk.1 hk.2
    obtain ⟨us, hus⟩ : ∃ x, x = u.cols.map rowI := ⟨_, rfl⟩
    rw [← hus] at cKu
    have hl : LGet ix (Int.ofNat i) [.sl 1 us, yB u.uniq] := ⟨Int.natCast_nonneg i, by rw [show (Int.ofNat i).toNat = i from rfl, hix, List.getElem?_map, hu2, hus]; rfl⟩
    obtain ⟨ub, hub⟩ : ∃ x, x = u.uniq := ⟨_, rfl⟩
    rw [← hub] at cu hl
    obtain ⟨d1, hd1⟩ : ∃ b, b = nb u.cols := ⟨_, rfl⟩
    rw [← hd1] at cu cKu zKu
    refine Exists.intro [.sl 1 us, yB ub] ?_
    cbv
    refine And.intro hl ?_
    refine callI hC cKu ?_
    cbv
    refine brT (cok _ _ (by omega)) ?_
    try cbv
    refine Exists.intro [.sl 1 us, yB ub] ?_
    cbv
    refine And.intro hl ?_
    refine callI hC (cB ub) ?_
    obtain ⟨d3, hd3⟩ : ∃ b, b = bb ub := ⟨_, rfl⟩
    have zd3 := zB ub
    rw [← hd3] at zd3 cu ⊢
    cbv
    refine brT (cok _ _ (by rw [ecat, ByteArray.size_append]; omega)) ?_
    try cbv
    conv => arg 1; cbv
    rw [e1]
    refine jh (i + 1, _) _ ⟨by dsimp only; omega, ?_⟩ (by dsimp only; omega) rfl
    dsimp only
    rw [cu, ← ht]
    exact (ecat _ _).trans (by rw [ecat])
  · have h := ltF hF h
    have hin : i = ni := by ((try simp only [Int.ofNat_eq_natCast] at *); omega)
    refine hK2 _ _ ?_
    cbv
    exact retS hr (by rw [qt, ht, hin])
end Go.Proofs.YtemfaiabbonpnaaGreatDoor
