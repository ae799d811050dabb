/- Functions of the program, each with what it returns, run by the evaluator; the conditions stand in the theorems. -/
import Derived.Test.YtemfaiabbonpnaaGreatDoorLDbB
namespace Go.Proofs.YtemfaiabbonpnaaGreatDoor
open Go Go.Proofs.YtemfaiabbonpnaaGreatDoorW Go.Proofs
set_option linter.unusedVariables false
set_option linter.unusedSimpArgs false
set_option maxRecDepth 100000
set_option maxHeartbeats 1600000
/-! The bytes of a database. -/
theorem idbBytes_ok (d : Dbs) (hR : dbRight d = true) (hb : Dbs.Bd maxLen d) (hb2 : Dbs.Bd 1048576 d) (hg : Dbs.Rg d) : CallOK Tryz.prog 36 [.agg [.y (.sl 5 (d.tabs.map Tbl.row))]] (St (dbTo d d.tabs.length)) := by
  have cN := iPutNum_ok
  have cT := iPutText_ok
  have zN : ∀ n, I64 n → (putNum n).size ≤ 10 := putNum_size
  have zT := putText_size
  have cSc : ∀ u ∈ d.tabs, CallOK Tryz.prog 27 [.agg [.y (yS u.sch.name), .y (.sl 3 (u.sch.cols.map Col.row)), .y (.sl 1 (u.sch.key.map rowI)), .y (.sl 2 (u.sch.idx.map Idx.row))]] (St (schBytes u.sch)) := fun u hu => iSchemaBytes_ok u.sch (hb2.1.2 u hu).1 (hg.1 u hu).1 (hb.1.2 u hu).1
  have cKb : ∀ u, u ∈ d.tabs → ∀ r ∈ u.rows, CallOK Tryz.prog 28 [.c (.y (.sl 3 (r.map Val.row)))] (St (keyBytes r)) := fun u => fun h r hr =>
    iKeyBytes_ok r ((hb.1.2 u h).2.1.2 r hr).1 (fun v hv' => ((hg.1 u h).2.1 r hr v hv').2.1)
  have hn8 := (dbRight_of hR).1
  have hn60 : ∀ u ∈ d.tabs, u.rows.length ≤ 60 := fun u hu => (tabRight_of ((dbRight_of hR).2 u hu)).1
  have zD := dbTo_size hn8 hn60
  have zH : ∀ a, ∀ u ∈ d.tabs, (tabHead a u).size ≤ a.size + 20020 := fun a u hu => tabHead_size (by have := hn60 u hu; omega)
  have zR := rowsTo_size
  have D0 : dbTo d 0 = putNum (Int.ofNat d.tabs.length) := rfl
  have D1 : ∀ i u, d.tabs[i]? = some u → dbTo d (i + 1) = rowsTo (tabHead (dbTo d i) u) u.rows u.rows.length := fun i u h => by
    rw [dbTo, List.getD_eq_getElem?_getD, h]; rfl
  have H1 : ∀ a u, tabHead a u = a ++ (putText (schBytes u.sch) ++ putNum (Int.ofNat u.rows.length)) := fun _ _ => rfl
  have R0 : ∀ a rows, rowsTo a rows 0 = a := fun _ _ => rfl
  have R1 : ∀ a rows k r, rows[k]? = some r → rowsTo a rows (k + 1) = rowsTo a rows k ++ putText (keyBytes r) := fun a rows k r h => by
    rw [rowsTo, List.getD_eq_getElem?_getD, h]; rfl
  have ne0 := dbTo_ne d
  obtain ⟨D, hD⟩ : ∃ f, f = dbTo d := ⟨_, rfl⟩
  obtain ⟨H, hH⟩ : ∃ f, f = tabHead := ⟨_, rfl⟩
  obtain ⟨RT, hRT⟩ : ∃ f, f = rowsTo := ⟨_, rfl⟩
  obtain ⟨pn, hpn⟩ : ∃ f, f = putNum := ⟨_, rfl⟩
  obtain ⟨pt, hpt⟩ : ∃ f, f = putText := ⟨_, rfl⟩
  obtain ⟨sb, hsb⟩ : ∃ f, f = schBytes := ⟨_, rfl⟩
  obtain ⟨kb, hkb⟩ : ∃ f, f = keyBytes := ⟨_, rfl⟩
  rw [← hD] at zD D0 D1 ne0 ⊢
  rw [← hH] at zH D1 H1
  rw [← hRT] at zR D1 R0 R1
  rw [← hpn] at cN zN D0 H1
  rw [← hpt] at cT zT H1 R1
  rw [← hsb] at cSc H1
  rw [← hkb] at cKb R1
  clear hD hH hRT hpn hpt hsb hkb hR hb hb2 hg
  obtain ⟨xs, hx⟩ : ∃ xs, xs = d.tabs.map Tbl.row := ⟨_, rfl⟩
  have hxl : xs.length = d.tabs.length := by rw [hx, List.length_map]
  rw [← hx]
  obtain ⟨n, hn⟩ : ∃ n, n = d.tabs.length := ⟨_, rfl⟩
  rw [← hn] at hxl hn8 zD D0 ⊢
  obtain ⟨q, hq⟩ : ∃ q, q = D n := ⟨_, rfl⟩
  rw [← hq]
  obtain ⟨M, hM⟩ := mapEx
  try simp only [hM]
  refine go Tryz.func36 rfl rfl rfl rfl fun pAdd pSub pMul pQuo pRem pAnd pOr pXor pAndNot pShl pShr pNeg pCompl pConv pLt pLe pEq pSlt pSle pSeq pCat pCatOk pSlen pSsub pSat pIadd pIsub pBnot pBeq pImin pImax pLlen pLsub pLapp pLset pLcopy pLenOk pBytes pRep hF Ca hC r hr => ?_
  cbv
  have ex : pLlen xs = Int.ofNat n := (llenIs hF _).trans (by rw [hxl]; rfl)
  have ev : ∀ n : Nat, n ≤ 1000 → pConv .i64 (Int.ofNat n) = Int.ofNat n := fun n h => by cases hF; exact wrap_i64 (by ((try simp only [Int.ofNat_eq_natCast] at *); omega)) (by ((try simp only [Int.ofNat_eq_natCast] at *); omega))
  have cok : ∀ a b : ByteArray, a.size + b.size ≤ 9223372036854775807 → pCatOk a b = true := fun a b h => catOkIs hF h
  have ecat : ∀ a b : ByteArray, pCat a b = a ++ b := catIs hF
  rw [ex]
  try rw [ev n (by omega)]
  refine callI hC (cN _ (i64nat (by omega))) ?_
  rw [← D0]
  obtain ⟨p0, hp0⟩ : ∃ t, t = D 0 := ⟨_, rfl⟩
  have hp0s := zD 0 (Nat.zero_le _)
  rw [← hp0] at hp0s ⊢
  cbv
  obtain ⟨t0, ht0⟩ : ∃ t : ByteArray, t = ⟨⟨[]⟩⟩ ++ p0 := ⟨_, rfl⟩
  obtain ⟨m0, hm0⟩ : ∃ m : Int, m = (p0.size : Int) := ⟨_, rfl⟩
  have hw0 := wsS_at ht0 hm0 (by show 0 + p0.size ≤ _; omega)
  clear hm0
  refine callI hC hw0 ?_
  have ht0 : t0 = D 0 := by rw [ht0, ← hp0]; exact ByteArray.empty_append
  cbv
  rw [ex]
  refine loop_u (α := Nat × ByteArray) (fun (i, t) st => (st.n 16 (Int.ofNat i)).ob 3000 (.op (.bd 66 5 t))) (fun x => x.1 ≤ n ∧ x.2 = D x.1) (fun x => n - x.1) (0, t0) rfl ⟨Nat.zero_le _, ht0⟩ (fun K' hK I x hx' ih => ?_)
  obtain ⟨i, t⟩ := x
  obtain ⟨hi', ht⟩ := hx'
  dsimp only at hi' ht
  cbv
  have hts := zD i hi'
  rw [← ht] at hts
  refine brkI (fun h => ?_) (fun h => ?_) <;> try cbv
  · skip
    have h := ltT hF h
    have hs : i < d.tabs.length := by ((try simp only [Int.ofNat_eq_natCast] at *); omega)
    have e1 : pAdd .i64 (Int.ofNat i) 1 = Int.ofNat (i + 1) := add1Is hF (by omega)
    obtain ⟨u, hu⟩ : ∃ u, u = d.tabs[i] := ⟨_, rfl⟩
    have hu2 : d.tabs[i]? = some u := by rw [List.getElem?_eq_getElem hs, hu]
    have hum : u ∈ d.tabs := hu ▸ List.getElem_mem hs
    have cu := D1 i u hu2
    have cS := cSc u hum
    have cK := cKb u hum
    have m60 := hn60 u hum
    have hu1 := H1 (D i) u
    have zh := zH (D i) u hum
    have hl : LGet xs (Int.ofNat i) (Tbl.row u) := ⟨Int.natCast_nonneg i, by rw [show (Int.ofNat i).toNat = i from rfl, hx, List.getElem?_map, hu2]; rfl⟩
    simp only [Tbl.row] at hl
    obtain ⟨ucs, hucs⟩ : ∃ x, x = u.sch.cols.map Col.row := ⟨_, rfl⟩
    obtain ⟨uks, huks⟩ : ∃ x, x = u.sch.key.map rowI := ⟨_, rfl⟩
    obtain ⟨uix, huix⟩ : ∃ x, x = u.sch.idx.map Idx.row := ⟨_, rfl⟩
    obtain ⟨un, hun⟩ : ∃ x, x = u.sch.name := ⟨_, rfl⟩
    obtain ⟨rows, hrows⟩ : ∃ x, x = u.rows := ⟨_, rfl⟩
    rw [← hrows] at cu hu1 cK m60 hl
    obtain ⟨us, hus⟩ : ∃ x, x = rows.map rowVs := ⟨_, rfl⟩
    have husl : us.length = rows.length := by rw [hus, List.length_map]
    rw [← hucs, ← huks, ← huix, ← hus, ← hun] at hl
    rw [← hucs, ← huks, ← huix, ← hun] at cS
    obtain ⟨sbu, hsbu⟩ : ∃ x, x = sb u.sch := ⟨_, rfl⟩
    rw [← hsbu] at cS hu1
    obtain ⟨Hu, hHu⟩ : ∃ x, x = H (D i) u := ⟨_, rfl⟩
    rw [← hHu] at cu hu1 zh
    obtain ⟨m, hm⟩ : ∃ m, m = rows.length := ⟨_, rfl⟩
    rw [← hm] at cu hu1 m60 husl
    clear hucs huks huix hun hrows hsbu hHu
    have em : pLlen us = Int.ofNat m := (llenIs hF _).trans (by rw [husl]; rfl)
    refine Exists.intro [yS un, .sl 3 ucs, .sl 1 uks, .sl 2 uix, .sl 1 us] ?_
    cbv
    refine And.intro hl ?_
    refine callI hC cS ?_
    cbv
    refine callI hC (cT sbu) ?_
    obtain ⟨d1, hd1⟩ : ∃ b, b = pt sbu := ⟨_, rfl⟩
    have zd1 := zT sbu
    rw [← hd1] at zd1 hu1 ⊢
    cbv
    rw [em]
    try rw [ev m (by omega)]
    refine callI hC (cN _ (i64nat (by omega))) ?_
    obtain ⟨d2, hd2⟩ : ∃ b, b = pn (Int.ofNat m) := ⟨_, rfl⟩
    have zd2 := zN _ (i64nat (show m ≤ 9223372036854775807 by omega))
    rw [← hd2] at zd2 hu1 ⊢
    cbv
    refine brT (cok _ _ (by omega)) ?_
    try cbv
    obtain ⟨p1, hp1⟩ : ∃ p, p = pCat d1 d2 := ⟨_, rfl⟩
    rw [← hp1]
    have hp1s : p1.size ≤ 20020 := by rw [hp1, ecat, ByteArray.size_append]; omega
    have hp1 : p1 = d1 ++ d2 := by rw [hp1]; exact ecat _ _
    rw [← hp1, ← ht] at hu1
    obtain ⟨m1, hm1⟩ : ∃ m : Int, m = (p1.size : Int) := ⟨_, rfl⟩
    have hw1 := wsS_at hu1 hm1 (by omega)
    clear hm1
    refine callI hC hw1 ?_
    cbv
    rw [em]
    have hH0 : Hu = RT Hu rows 0 := (R0 _ _).symm
    rw [← ht] at zh
    obtain ⟨Hv, hHv⟩ : ∃ x, x = Hu := ⟨_, rfl⟩
    have hH0 : Hv = RT Hu rows 0 := by rw [hHv]; exact hH0
    rw [← hHv]
    refine loop_u (α := Nat × ByteArray) (fun (k, t) st => (st.n 33 (Int.ofNat k)).ob 3000 (.op (.bd 66 5 t))) (fun x => x.1 ≤ m ∧ x.2 = RT Hu rows x.1) (fun x => m - x.1) (0, Hv) rfl ⟨Nat.zero_le _, hH0⟩ (fun K2 hK2 J x hx' jh => ?_)
    obtain ⟨k, y⟩ := x
    obtain ⟨hk', hys⟩ := hx'
    dsimp only at hk' hys
    cbv
    have hrs := zR Hu rows k
    rw [← hys] at hrs
    refine brkI (fun h => ?_) (fun h => ?_) <;> try cbv
    · have h := ltT hF h
      have hks : k < rows.length := by ((try simp only [Int.ofNat_eq_natCast] at *); omega)
      have e2 : pAdd .i64 (Int.ofNat k) 1 = Int.ofNat (k + 1) := add1Is hF (by omega)
      obtain ⟨r0, hr0⟩ : ∃ r, r = rows[k] := ⟨_, rfl⟩
      have hr2 : rows[k]? = some r0 := by rw [List.getElem?_eq_getElem hks, hr0]
      have cr := R1 Hu rows k r0 hr2
      have cKr := cK r0 (hr0 ▸ List.getElem_mem hks)
      obtain ⟨vs, hvs⟩ : ∃ x, x = r0.map Val.row := ⟨_, rfl⟩
      rw [← hvs] at cKr
      have hl2 : LGet us (Int.ofNat k) [.sl 3 vs] := ⟨Int.natCast_nonneg k, by rw [show (Int.ofNat k).toNat = k from rfl, hus, List.getElem?_map, hr2, hvs]; rfl⟩
      obtain ⟨kbr, hkbr⟩ : ∃ x, x = kb r0 := ⟨_, rfl⟩
      rw [← hkbr] at cKr cr
      refine Exists.intro [.sl 3 vs] ?_
      cbv
      refine And.intro hl2 ?_
      refine callI hC cKr ?_
      cbv
      refine callI hC (cT kbr) ?_
      obtain ⟨d3, hd3⟩ : ∃ b, b = pt kbr := ⟨_, rfl⟩
      have zd3 := zT kbr
      rw [← hd3] at zd3 cr ⊢
      rw [← hys] at cr
      cbv
      obtain ⟨m3, hm3⟩ : ∃ m : Int, m = (d3.size : Int) := ⟨_, rfl⟩
      have hw3 := wsS_at cr hm3 (by omega)
      clear hm3
      obtain ⟨t3, ht3⟩ : ∃ x, x = RT Hu rows (k + 1) := ⟨_, rfl⟩
      rw [← ht3] at hw3
      refine callI hC hw3 ?_
      cbv
      conv => arg 1; cbv
      rw [e2]
      exact jh (k + 1, t3) _ ⟨by dsimp only; omega, ht3⟩ (by dsimp only; omega) rfl
    · have h := ltF hF h
      have hkm : k = m := by ((try simp only [Int.ofNat_eq_natCast] at *); omega)
      refine hK2 _ _ ?_
      cbv
      conv => arg 1; cbv
      rw [e1]
      exact ih (i + 1, y) _ ⟨by dsimp only; omega, by dsimp only; rw [hys, hkm, cu]⟩ (by dsimp only; omega) rfl
  · have h := ltF hF h
    have hin : i = n := by ((try simp only [Int.ofNat_eq_natCast] at *); omega)
    refine hK _ _ ?_
    cbv
    refine callI hC (bstrS_ok t (by rw [ht]; exact ne0 i)) ?_
    cbv
    exact retS hr (by rw [ht, hin, hq])
theorem sDbBytes_ok (d : Dbs) (hb : Dbs.Bd maxLen d) (hb2 : Dbs.Bd 1048576 d) (hg : Dbs.Rg d) : CallOK Tryz.prog 11 [.agg [.y (.sl 5 (d.tabs.map Tbl.row))]] (St (dbBytes d)) := by
  have cR := sDbRight_ok d hb2
  have cB : dbRight d = true → CallOK Tryz.prog 33 [.agg [.y (.sl 5 (d.tabs.map Tbl.row))]] (St (dbBytes d)) := fun h => by
    rw [dbBytes, ite_t h]; exact sl06Bytes_ok d h hb hb2 hg
  have qf : dbRight d = false → dbBytes d = ⟨⟨[]⟩⟩ := fun h => by rw [dbBytes, ite_f h]
  obtain ⟨xs, hx⟩ : ∃ xs, xs = d.tabs.map Tbl.row := ⟨_, rfl⟩
  rw [← hx] at cR cB ⊢
  obtain ⟨R, hR⟩ : ∃ R, R = dbRight d := ⟨_, rfl⟩
  obtain ⟨q, hq⟩ : ∃ q, q = dbBytes d := ⟨_, rfl⟩
  rw [← hR] at cR cB qf
  rw [← hq] at cB qf ⊢
  clear hx hR hq
  obtain ⟨M, hM⟩ := mapEx
  try simp only [hM]
  refine go Tryz.func11 rfl rfl rfl rfl fun pAdd pSub pMul pQuo pRem pAnd pOr pXor pAndNot pShl pShr pNeg pCompl pConv pLt pLe pEq pSlt pSle pSeq pCat pCatOk pSlen pSsub pSat pIadd pIsub pBnot pBeq pImin pImax pLlen pLsub pLapp pLset pLcopy pLenOk pBytes pRep hF Ca hC r hr => ?_
  cbv
  refine callB hC cR (fun hR => ?_) (fun hR => ?_) <;> try cbv
  · refine callI hC (cB hR) ?_
    cbv
    exact retS hr rfl
  · exact retS hr (qf hR)
theorem iDbBytes_ok (d : Dbs) (hb : Dbs.Bd maxLen d) (hb2 : Dbs.Bd 1048576 d) (hg : Dbs.Rg d) : CallOK Tryz.prog 13 [.agg [.y (.sl 5 (d.tabs.map Tbl.row))]] (St (dbBytes d)) := by
  have cR := iDbRight_ok d hb2
  have cB : dbRight d = true → CallOK Tryz.prog 36 [.agg [.y (.sl 5 (d.tabs.map Tbl.row))]] (St (dbBytes d)) := fun h => by
    rw [dbBytes, ite_t h]; exact idbBytes_ok d h hb hb2 hg
  have qf : dbRight d = false → dbBytes d = ⟨⟨[]⟩⟩ := fun h => by rw [dbBytes, ite_f h]
  obtain ⟨xs, hx⟩ : ∃ xs, xs = d.tabs.map Tbl.row := ⟨_, rfl⟩
  rw [← hx] at cR cB ⊢
  obtain ⟨R, hR⟩ : ∃ R, R = dbRight d := ⟨_, rfl⟩
  obtain ⟨q, hq⟩ : ∃ q, q = dbBytes d := ⟨_, rfl⟩
  rw [← hR] at cR cB qf
  rw [← hq] at cB qf ⊢
  clear hx hR hq
  obtain ⟨M, hM⟩ := mapEx
  try simp only [hM]
  refine go Tryz.func13 rfl rfl rfl rfl fun pAdd pSub pMul pQuo pRem pAnd pOr pXor pAndNot pShl pShr pNeg pCompl pConv pLt pLe pEq pSlt pSle pSeq pCat pCatOk pSlen pSsub pSat pIadd pIsub pBnot pBeq pImin pImax pLlen pLsub pLapp pLset pLcopy pLenOk pBytes pRep hF Ca hC r hr => ?_
  cbv
  refine callB hC cR (fun hR => ?_) (fun hR => ?_) <;> try cbv
  · refine callI hC (cB hR) ?_
    cbv
    exact retS hr rfl
  · exact retS hr (qf hR)
end Go.Proofs.YtemfaiabbonpnaaGreatDoor
