/- Functions of the program, each with what it returns, run by the evaluator; the conditions stand in the theorems. -/
import Derived.Test.YtemfaiabbonpnaaGreatDoorLSBy3
import Derived.Test.YtemfaiabbonpnaaGreatDoorLKBy2
import Derived.Test.YtemfaiabbonpnaaGreatDoorLDb
namespace Go.Proofs.YtemfaiabbonpnaaGreatDoor
open Go Go.Proofs.YtemfaiabbonpnaaGreatDoorW Go.Proofs
set_option linter.unusedVariables false
set_option linter.unusedSimpArgs false
set_option maxRecDepth 100000
set_option maxHeartbeats 1600000
/-! The bytes of a database. -/
def rowsTo (a : ByteArray) (rows : List (List Val)) : Nat → ByteArray
  | 0 => a
  | k + 1 => rowsTo a rows k ++ putText (keyBytes (rows.getD k []))
def tabHead (a : ByteArray) (t : Tbl) : ByteArray := a ++ (putText (schBytes t.sch) ++ putNum (Int.ofNat t.rows.length))
def dbTo (d : Dbs) : Nat → ByteArray
  | 0 => putNum (Int.ofNat d.tabs.length)
  | i + 1 => rowsTo (tabHead (dbTo d i) (d.tabs.getD i default)) (d.tabs.getD i default).rows (d.tabs.getD i default).rows.length
def dbBytes (d : Dbs) : ByteArray := if dbRight d then dbTo d d.tabs.length else ⟨⟨[]⟩⟩
theorem rowsTo_size (a : ByteArray) (rows : List (List Val)) : ∀ k, (rowsTo a rows k).size ≤ a.size + 20010 * k
  | 0 => by rw [rowsTo]; omega
  | k + 1 => by
    have h1 := rowsTo_size a rows k
    have h2 := putText_size (keyBytes (rows.getD k []))
    rw [rowsTo, ByteArray.size_append]; omega
theorem rowsTo_ne {a : ByteArray} (rows : List (List Val)) (h : a.size ≠ 0) : ∀ k, (rowsTo a rows k).size ≠ 0
  | 0 => h
  | k + 1 => by
    have h1 := rowsTo_ne rows h k
    rw [rowsTo, ByteArray.size_append]; omega
theorem tabHead_size {a : ByteArray} {t : Tbl} (h : t.rows.length ≤ 1048576) : (tabHead a t).size ≤ a.size + 20020 := by
  have h1 := putText_size (schBytes t.sch)
  have h2 := putNum_size (Int.ofNat t.rows.length) (i64nat (by omega))
  rw [tabHead, ByteArray.size_append, ByteArray.size_append]; omega
theorem dbTo_size {d : Dbs} (hd : d.tabs.length ≤ 8) (hr : ∀ t ∈ d.tabs, t.rows.length ≤ 60) : ∀ i, i ≤ d.tabs.length → (dbTo d i).size ≤ 10 + 1220700 * i
  | 0, _ => by
    have := putNum_size (Int.ofNat d.tabs.length) (i64nat (by omega))
    rw [dbTo]; omega
  | i + 1, h => by
    have h1 := dbTo_size hd hr i (by omega)
    have hm : d.tabs.getD i default ∈ d.tabs := by rw [getD_at (show i < d.tabs.length by omega)]; exact List.getElem_mem _
    have h2 := hr _ hm
    have h3 := tabHead_size (a := dbTo d i) (t := d.tabs.getD i default) (by omega)
    have h4 := rowsTo_size (tabHead (dbTo d i) (d.tabs.getD i default)) (d.tabs.getD i default).rows (d.tabs.getD i default).rows.length
    rw [dbTo]; omega
theorem dbTo_ne (d : Dbs) : ∀ i, (dbTo d i).size ≠ 0
  | 0 => putNum_ne _
  | i + 1 => by
    have h := dbTo_ne d i
    rw [dbTo]
    refine rowsTo_ne _ ?_ _
    rw [tabHead, ByteArray.size_append]; omega
theorem dbRight_of {d : Dbs} (h : dbRight d = true) : d.tabs.length ≤ 8 ∧ ∀ t ∈ d.tabs, tabRight t = true := by
  rw [dbRight] at h
  simp only [Bool.and_eq_true, decide_eq_true_eq] at h
  refine ⟨h.2, fun t ht => ?_⟩
  obtain ⟨i, hi, rfl⟩ := List.getElem_of_mem ht
  have := allTo_iff.1 h.1 i hi
  rw [dbAt, getD_at hi] at this
  simp only [Bool.and_eq_true] at this
  exact this.1
theorem rowOk_vals {s : Sch} {row : List Val} (hs : schRight s = true) (h : rowOk s row = true) : valsRight row = true := by
  have hl := rowOk_eq h
  have hc := (schRight_small hs).1
  simp only [rowOk, Bool.and_eq_true, decide_eq_true_eq] at h
  refine valsRight_iff.2 ⟨by omega, fun v hv => ?_⟩
  obtain ⟨i, hi, rfl⟩ := List.getElem_of_mem hv
  have := allTo_iff.1 h.2 i hi
  rw [cellAt, getD_at hi] at this
  simp only [Bool.and_eq_true] at this
  exact this.1
theorem tabRight_of {t : Tbl} (h : tabRight t = true) : t.rows.length ≤ 60 ∧ ∀ r ∈ t.rows, valsRight r = true := by
  rw [tabRight] at h
  simp only [Bool.and_eq_true, decide_eq_true_eq] at h
  refine ⟨h.1.2, fun r hr => ?_⟩
  obtain ⟨i, hi, rfl⟩ := List.getElem_of_mem hr
  have := allTo_iff.1 h.2 i hi
  rw [tabAt, getD_at hi] at this
  simp only [Bool.and_eq_true] at this
  exact rowOk_vals h.1.1 this.1.1
theorem sl06Bytes_ok (d : Dbs) (hR : dbRight d = true) (hb : Dbs.Bd maxLen d) (hb2 : Dbs.Bd 1048576 d) (hg : Dbs.Rg d) : CallOK Tryz.prog 33 [.agg [.y (.sl 5 (d.tabs.map Tbl.row))]] (St (dbTo d d.tabs.length)) := by
  have cN := sPutNum_ok
  have cT := sPutText_ok
  have zN : ∀ n, I64 n → (putNum n).size ≤ 10 := putNum_size
  have zT := putText_size
  have cSc : ∀ u ∈ d.tabs, CallOK Tryz.prog 19 [.agg [.y (yS u.sch.name), .y (.sl 3 (u.sch.cols.map Col.row)), .y (.sl 1 (u.sch.key.map rowI)), .y (.sl 2 (u.sch.idx.map Idx.row))]] (St (schBytes u.sch)) := fun u hu => sSchemaBytes_ok u.sch (hb2.1.2 u hu).1 (hg.1 u hu).1 (hb.1.2 u hu).1
  have cKb : ∀ u, u ∈ d.tabs → ∀ r ∈ u.rows, CallOK Tryz.prog 20 [.c (.y (.sl 3 (r.map Val.row)))] (St (keyBytes r)) := fun u => fun h r hr => by
    have hv := (tabRight_of ((dbRight_of hR).2 u h)).2 r hr
    have := sKeyL_ok r hv (fun v hv' => ((hg.1 u h).2.1 r hr v hv').2.1)
    rw [keyBytes, ite_t hv]
    exact this
  have hn8 := (dbRight_of hR).1
  have hn60 : ∀ u ∈ d.tabs, u.rows.length ≤ 60 := fun u hu => (tabRight_of ((dbRight_of hR).2 u hu)).1
  have zD := dbTo_size hn8 hn60
  have zH : ∀ a, ∀ u ∈ d.tabs, (tabHead a u).size ≤ a.size + 20020 := fun a u hu => tabHead_size (by have := hn60 u hu; omega)
  have zR := rowsTo_size
  have D0 : dbTo d 0 = putNum (Int.ofNat d.tabs.length) := rfl
  have D1 : ∀ i u, d.tabs[i]? = some u → dbTo d (i + 1) = rowsTo (tabHead (dbTo d i) u) u.rows u.rows.length := fun i u h => by
    rw [dbTo, List.getD_eq_getElem?_getD, h]; rfl
  have H1 : ∀ a u, tabHead a u = a ++ (putText (schBytes u.sch) ++ putNum (Int.ofNat u.rows.length)) := fun _ _ => rfl
  have R0 : ∀ a rows, rowsTo a rows 0 = a := fun _ _ => rfl
  have R1 : ∀ a rows k r, rows[k]? = some r → rowsTo a rows (k + 1) = rowsTo a rows k ++ putText (keyBytes r) := fun a rows k r h => by
    rw [rowsTo, List.getD_eq_getElem?_getD, h]; rfl
  have ne0 := dbTo_ne d
  obtain ⟨D, hD⟩ : ∃ f, f = dbTo d := ⟨_, rfl⟩
  obtain ⟨H, hH⟩ : ∃ f, f = tabHead := ⟨_, rfl⟩
  obtain ⟨RT, hRT⟩ : ∃ f, f = rowsTo := ⟨_, rfl⟩
  obtain ⟨pn, hpn⟩ : ∃ f, f = putNum := ⟨_, rfl⟩
  obtain ⟨pt, hpt⟩ : ∃ f, f = putText := ⟨_, rfl⟩
  obtain ⟨sb, hsb⟩ : ∃ f, f = schBytes := ⟨_, rfl⟩
  obtain ⟨kb, hkb⟩ : ∃ f, f = keyBytes := ⟨_, rfl⟩
  rw [← hD] at zD D0 D1 ne0 ⊢
  rw [← hH] at zH D1 H1
  rw [← hRT] at zR D1 R0 R1
  rw [← hpn] at cN zN D0 H1
  rw [← hpt] at cT zT H1 R1
  rw [← hsb] at cSc H1
  rw [← hkb] at cKb R1
  clear hD hH hRT hpn hpt hsb hkb hR hb hb2 hg
  obtain ⟨xs, hx⟩ : ∃ xs, xs = d.tabs.map Tbl.row := ⟨_, rfl⟩
  have hxl : xs.length = d.tabs.length := by rw [hx, List.length_map]
  rw [← hx]
  obtain ⟨n, hn⟩ : ∃ n, n = d.tabs.length := ⟨_, rfl⟩
  rw [← hn] at hxl hn8 zD D0 ⊢
  obtain ⟨q, hq⟩ : ∃ q, q = D n := ⟨_, rfl⟩
  rw [← hq]
  obtain ⟨M, hM⟩ := mapEx
  try simp only [hM]
  refine go Tryz.func33 rfl rfl rfl rfl fun pAdd pSub pMul pQuo pRem pAnd pOr pXor pAndNot pShl pShr pNeg pCompl pConv pLt pLe pEq pSlt pSle pSeq pCat pCatOk pSlen pSsub pSat pIadd pIsub pBnot pBeq pImin pImax pLlen pLsub pLapp pLset pLcopy pLenOk pBytes pRep hF Ca hC r hr => ?_
  cbv
  have ex : pLlen xs = Int.ofNat n := (llenIs hF _).trans (by rw [hxl]; rfl)
  have ev : ∀ n : Nat, n ≤ 1000 → pConv .i64 (Int.ofNat n) = Int.ofNat n := fun n h => by cases hF; exact wrap_i64 (by ((try simp only [Int.ofNat_eq_natCast] at *); omega)) (by ((try simp only [Int.ofNat_eq_natCast] at *); omega))
  have cok : ∀ a b : ByteArray, a.size + b.size ≤ 9223372036854775807 → pCatOk a b = true := fun a b h => catOkIs hF h
  have ecat : ∀ a b : ByteArray, pCat a b = a ++ b := catIs hF
  have eB : ∀ b : ByteArray, pBytes b = bytesL b.data.toList := fun b => by cases hF; rfl
  have lok1 : ∀ b : ByteArray, b.size ≤ 4294967296 → pLenOk (pSlen b) = true := fun b h => lenOkIs hF (by have : pSlen b = _ := slenIs hF b; rw [this]; omega)
  have bl : ∀ b : ByteArray, (bytesL b.data.toList).length = b.size := fun b => by rw [bytesL, List.length_map]; rfl
  have lok : ∀ (zs : List (List Y)) (a b : ByteArray), zs = bytesL a.data.toList → a.size + b.size ≤ 4294967296 → pLenOk (pIadd (pLlen zs) (pLlen (pBytes b))) = true := fun zs a b hz h => lenOkIs hF (by
    have a1 : pLlen zs = _ := llenIs hF _
    have a2 : pLlen (pBytes b) = _ := llenIs hF _
    have a3 : ∀ a b, pIadd a b = a + b := fun a b => by cases hF; rfl
    rw [a1, a2, a3, hz, eB, bl, bl]; omega)
  have app : ∀ (zs : List (List Y)) (a b : ByteArray), zs = bytesL a.data.toList → pLapp zs (pBytes b) = bytesL (a ++ b).data.toList := fun zs a b hz => by
    have : pLapp zs (pBytes b) = zs ++ pBytes b := lappIs hF _ _
    rw [this, hz, eB, ByteArray.data_append, Array.toList_append, bytesL, bytesL, bytesL, List.map_append]
  rw [ex]
  try rw [ev n (by omega)]
  refine callI hC (cN _ (i64nat (by omega))) ?_
  rw [← D0]
  obtain ⟨p0, hp0⟩ : ∃ t, t = D 0 := ⟨_, rfl⟩
  have hp0s := zD 0 (Nat.zero_le _)
  rw [← hp0] at hp0s ⊢
  cbv
  refine brT (lok1 p0 (by omega)) ?_
  try cbv
  obtain ⟨z0, hz0⟩ : ∃ z, z = pBytes p0 := ⟨_, rfl⟩
  rw [← hz0]
  have hz0 : z0 = bytesL (D 0).data.toList := by rw [hz0, eB, hp0]
  refine loop_u (α := Nat × List (List Y)) (fun (i, zs) st => (st.n 4 (Int.ofNat i)).ob 3001 (.ar 1 zs)) (fun x => x.1 ≤ n ∧ x.2 = bytesL (D x.1).data.toList) (fun x => n - x.1) (0, z0) rfl ⟨Nat.zero_le _, hz0⟩ (fun K' hK I x hx' ih => ?_)
  obtain ⟨i, zs⟩ := x
  obtain ⟨hi', hzs⟩ := hx'
  dsimp only at hi' hzs
  cbv
  rw [ex]
  have hts := zD i hi'
  refine brkI (fun h => ?_) (fun h => ?_) <;> try cbv
  · skip
    have h := ltT hF h
    have hs : i < d.tabs.length := by ((try simp only [Int.ofNat_eq_natCast] at *); omega)
    have e1 : pAdd .i64 (Int.ofNat i) 1 = Int.ofNat (i + 1) := add1Is hF (by omega)
    obtain ⟨u, hu⟩ : ∃ u, u = d.tabs[i] := ⟨_, rfl⟩
    have hu2 : d.tabs[i]? = some u := by rw [List.getElem?_eq_getElem hs, hu]
    have hum : u ∈ d.tabs := hu ▸ List.getElem_mem hs
    have cu := D1 i u hu2
    have cS := cSc u hum
    have cK := cKb u hum
    have m60 := hn60 u hum
    have hu1 := H1 (D i) u
    have zh := zH (D i) u hum
    have hl : LGet xs (Int.ofNat i) (Tbl.row u) := ⟨Int.natCast_nonneg i, by rw [show (Int.ofNat i).toNat = i from rfl, hx, List.getElem?_map, hu2]; rfl⟩
    simp only [Tbl.row] at hl
    obtain ⟨ucs, hucs⟩ : ∃ x, x = u.sch.cols.map Col.row := ⟨_, rfl⟩
    obtain ⟨uks, huks⟩ : ∃ x, x = u.sch.key.map rowI := ⟨_, rfl⟩
    obtain ⟨uix, huix⟩ : ∃ x, x = u.sch.idx.map Idx.row := ⟨_, rfl⟩
    obtain ⟨un, hun⟩ : ∃ x, x = u.sch.name := ⟨_, rfl⟩
    obtain ⟨rows, hrows⟩ : ∃ x, x = u.rows := ⟨_, rfl⟩
    rw [← hrows] at cu hu1 cK m60 hl
    obtain ⟨us, hus⟩ : ∃ x, x = rows.map rowVs := ⟨_, rfl⟩
    have husl : us.length = rows.length := by rw [hus, List.length_map]
    rw [← hucs, ← huks, ← huix, ← hus, ← hun] at hl
    rw [← hucs, ← huks, ← huix, ← hun] at cS
    obtain ⟨sbu, hsbu⟩ : ∃ x, x = sb u.sch := ⟨_, rfl⟩
    rw [← hsbu] at cS hu1
    obtain ⟨Hu, hHu⟩ : ∃ x, x = H (D i) u := ⟨_, rfl⟩
    rw [← hHu] at cu hu1 zh
    obtain ⟨m, hm⟩ : ∃ m, m = rows.length := ⟨_, rfl⟩
    rw [← hm] at cu hu1 m60 husl
    clear hucs huks huix hun hrows hsbu hHu
    have em : pLlen us = Int.ofNat m := (llenIs hF _).trans (by rw [husl]; rfl)
    refine Exists.intro [yS un, .sl 3 ucs, .sl 1 uks, .sl 2 uix, .sl 1 us] ?_
    cbv
    refine And.intro hl ?_
    refine callI hC cS ?_
    cbv
    refine callI hC (cT sbu) ?_
    obtain ⟨d1, hd1⟩ : ∃ b, b = pt sbu := ⟨_, rfl⟩
    have zd1 := zT sbu
    rw [← hd1] at zd1 hu1 ⊢
    cbv
    refine brT (lok zs (D i) d1 hzs (by omega)) ?_
    have hz1 := app zs (D i) d1 hzs
    obtain ⟨z1, hz1'⟩ : ∃ z, z = pLapp zs (pBytes d1) := ⟨_, rfl⟩
    rw [← hz1'] at hz1 ⊢
    try cbv
    refine Exists.intro [yS un, .sl 3 ucs, .sl 1 uks, .sl 2 uix, .sl 1 us] ?_
    cbv
    refine And.intro hl ?_
    rw [em]
    try rw [ev m (by omega)]
    refine callI hC (cN _ (i64nat (by omega))) ?_
    obtain ⟨d2, hd2⟩ : ∃ b, b = pn (Int.ofNat m) := ⟨_, rfl⟩
    have zd2 := zN _ (i64nat (show m ≤ 9223372036854775807 by omega))
    rw [← hd2] at zd2 hu1 ⊢
    cbv
    refine brT (lok z1 (D i ++ d1) d2 hz1 (by rw [ByteArray.size_append]; omega)) ?_
    have hz2 := app z1 (D i ++ d1) d2 hz1
    rw [ByteArray.append_assoc, ← hu1] at hz2
    obtain ⟨z2, hz2'⟩ : ∃ z, z = pLapp z1 (pBytes d2) := ⟨_, rfl⟩
    rw [← hz2'] at hz2 ⊢
    try cbv
    have hz2 : z2 = bytesL (RT Hu rows 0).data.toList := by rw [R0]; exact hz2
    refine loop_u (α := Nat × List (List Y)) (fun (k, zs) st => (st.n 5 (Int.ofNat k)).ob 3001 (.ar 1 zs)) (fun x => x.1 ≤ m ∧ x.2 = bytesL (RT Hu rows x.1).data.toList) (fun x => m - x.1) (0, z2) rfl ⟨Nat.zero_le _, hz2⟩ (fun K2 hK2 J x hx' jh => ?_)
    obtain ⟨k, ys⟩ := x
    obtain ⟨hk', hys⟩ := hx'
    dsimp only at hk' hys
    cbv
    have hrs := zR Hu rows k
    refine Exists.intro [yS un, .sl 3 ucs, .sl 1 uks, .sl 2 uix, .sl 1 us] ?_
    cbv
    refine And.intro hl ?_
    rw [em]
    refine brkI (fun h => ?_) (fun h => ?_) <;> try cbv
    · have h := ltT hF h
      have hks : k < rows.length := by ((try simp only [Int.ofNat_eq_natCast] at *); omega)
      have e2 : pAdd .i64 (Int.ofNat k) 1 = Int.ofNat (k + 1) := add1Is hF (by omega)
      obtain ⟨r0, hr0⟩ : ∃ r, r = rows[k] := ⟨_, rfl⟩
      have hr2 : rows[k]? = some r0 := by rw [List.getElem?_eq_getElem hks, hr0]
      have cr := R1 Hu rows k r0 hr2
      have cKr := cK r0 (hr0 ▸ List.getElem_mem hks)
      obtain ⟨vs, hvs⟩ : ∃ x, x = r0.map Val.row := ⟨_, rfl⟩
      rw [← hvs] at cKr
      have hl2 : LGet us (Int.ofNat k) [.sl 3 vs] := ⟨Int.natCast_nonneg k, by rw [show (Int.ofNat k).toNat = k from rfl, hus, List.getElem?_map, hr2, hvs]; rfl⟩
      obtain ⟨kbr, hkbr⟩ : ∃ x, x = kb r0 := ⟨_, rfl⟩
      rw [← hkbr] at cKr cr
      refine Exists.intro [yS un, .sl 3 ucs, .sl 1 uks, .sl 2 uix, .sl 1 us] ?_
      cbv
      refine And.intro hl ?_
      refine Exists.intro [.sl 3 vs] ?_
      cbv
      refine And.intro hl2 ?_
      refine callI hC cKr ?_
      cbv
      refine callI hC (cT kbr) ?_
      obtain ⟨d3, hd3⟩ : ∃ b, b = pt kbr := ⟨_, rfl⟩
      have zd3 := zT kbr
      rw [← hd3] at zd3 cr ⊢
      cbv
      refine brT (lok ys _ d3 hys (by omega)) ?_
      have hz3 := app ys _ d3 hys
      rw [← cr] at hz3
      try cbv
      conv => arg 1; cbv
      rw [e2]
      exact jh (k + 1, _) _ ⟨by dsimp only; omega, hz3⟩ (by dsimp only; omega) rfl
    · have h := ltF hF h
      have hkm : k = m := by ((try simp only [Int.ofNat_eq_natCast] at *); omega)
      refine hK2 _ _ ?_
      cbv
      conv => arg 1; cbv
      rw [e1]
      exact ih (i + 1, ys) _ ⟨by dsimp only; omega, by dsimp only; rw [hys, hkm, cu]⟩ (by dsimp only; omega) rfl
  · have h := ltF hF h
    have hin : i = n := by ((try simp only [Int.ofNat_eq_natCast] at *); omega)
    refine hK _ _ ?_
    cbv
    refine ⟨q, ⟨by rw [hzs, hq, hin]⟩, ?_⟩
    cbv
    exact retS hr rfl
end Go.Proofs.YtemfaiabbonpnaaGreatDoor
