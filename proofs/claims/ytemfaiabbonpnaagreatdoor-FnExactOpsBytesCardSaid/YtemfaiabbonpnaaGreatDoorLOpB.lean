/- Functions of the program, each with what it returns, run by the evaluator; the conditions stand in the theorems. -/
import Derived.Test.YtemfaiabbonpnaaGreatDoorLSBy3
import Derived.Test.YtemfaiabbonpnaaGreatDoorLKBy2
import Derived.Test.YtemfaiabbonpnaaGreatDoorLOps
namespace Go.Proofs.YtemfaiabbonpnaaGreatDoor
open Go Go.Proofs.YtemfaiabbonpnaaGreatDoorW Go.Proofs
set_option linter.unusedVariables false
set_option linter.unusedSimpArgs false
set_option maxRecDepth 100000
set_option maxHeartbeats 1600000
/-! The bytes of ops. -/
def opTail (o : Opn) : ByteArray := if o.kind = 1 then putText (schBytes o.sch) else putText o.table ++ putText (keyBytes o.row_)
def opsTo (l : List Opn) : Nat → ByteArray
  | 0 => putNum (Int.ofNat l.length)
  | i + 1 => (opsTo l i ++ putNum (l.getD i default).kind) ++ opTail (l.getD i default)
def opsBytes (l : List Opn) : ByteArray := if opsRight l then opsTo l l.length else ⟨⟨[]⟩⟩
theorem opTail_size (o : Opn) : (opTail o).size ≤ 40020 := by
  rw [opTail]
  split
  · have := putText_size (schBytes o.sch); omega
  · have h1 := putText_size o.table
    have h2 := putText_size (keyBytes o.row_)
    rw [ByteArray.size_append]; omega
theorem opsTo_size {l : List Opn} (hl : l.length ≤ 20) (hr : ∀ v ∈ l, I64 v.kind) : ∀ i, i ≤ l.length → (opsTo l i).size ≤ 40030 * (i + 1)
  | 0, _ => by
    have := putNum_size (Int.ofNat l.length) (i64nat (by omega))
    rw [opsTo]; omega
  | i + 1, h => by
    have h1 := opsTo_size hl hr i (by omega)
    have h2 := putNum_size (l.getD i default).kind (by rw [getD_at (show i < l.length by omega)]; exact hr _ (List.getElem_mem _))
    have h3 := opTail_size (l.getD i default)
    rw [opsTo, ByteArray.size_append, ByteArray.size_append]; omega
theorem opsTo_ne (l : List Opn) : ∀ i, (opsTo l i).size ≠ 0
  | 0 => putNum_ne _
  | i + 1 => by
    have := opsTo_ne l i
    rw [opsTo, ByteArray.size_append, ByteArray.size_append]; omega
theorem opsRight_of {l : List Opn} (h : opsRight l = true) : l.length ≤ 20 ∧ ∀ v ∈ l, opOk v = true := by
  rw [opsRight] at h
  simp only [Bool.and_eq_true, decide_eq_true_eq] at h
  refine ⟨by omega, fun v hv => ?_⟩
  obtain ⟨i, hi, rfl⟩ := List.getElem_of_mem hv
  have := allTo_iff.1 h.2 i hi
  rw [opAt, getD_at hi] at this
  exact this
theorem opOk_row {o : Opn} (h : opOk o = true) (h1 : ¬ o.kind = 1) : valsRight o.row_ = true := by
  by_cases h2 : o.kind = 2 ∨ o.kind = 3 ∨ o.kind = 4
  · rw [opOk_2 h1 h2] at h
    simp only [Bool.and_eq_true] at h
    exact h.2
  · rw [opOk_3 h1 h2] at h; cases h
theorem isManyB_ok (n : Int) : CallOK Tryz.prog 22 [aN n] (B (decide (400 < n))) := by
  obtain ⟨q, hq⟩ : ∃ q, q = decide (400 < n) := ⟨_, rfl⟩
  rw [← hq]
  obtain ⟨M, hM⟩ := mapEx
  try simp only [hM]
  refine go Tryz.func22 rfl rfl rfl rfl fun pAdd pSub pMul pQuo pRem pAnd pOr pXor pAndNot pShl pShr pNeg pCompl pConv pLt pLe pEq pSlt pSle pSeq pCat pCatOk pSlen pSsub pSat pIadd pIsub pBnot pBeq pImin pImax pLlen pLsub pLapp pLset pLcopy pLenOk pBytes pRep hF Ca hC r hr => ?_
  cbv
  refine brkI (fun h => ?_) (fun h => ?_) <;> try cbv
  · exact retB hr (hq.trans (decide_eq_true (ltT hF h)))
  · exact retB hr (hq.trans (decide_eq_false (Int.not_lt.2 (ltF hF h))))
theorem sOpsBytes_ok (l : List Opn) (hl : l.length ≤ maxLen) (hb : ∀ v ∈ l, Opn.Bd maxLen v) (hb2 : ∀ v ∈ l, Opn.Bd 1048576 v) (hg : ∀ v ∈ l, Opn.Rg v) : CallOK Tryz.prog 6 [.c (.y (.sl 7 (l.map Opn.row)))] (St (opsBytes l)) := by
  have cR := sOpsRight_ok l hl hb
  have cN := sPutNum_ok
  have cT := sPutText_ok
  have zN : ∀ n, I64 n → (putNum n).size ≤ 10 := putNum_size
  have zT := putText_size
  have cSc : ∀ u ∈ l, CallOK Tryz.prog 19 [.agg [.y (yS u.sch.name), .y (.sl 3 (u.sch.cols.map Col.row)), .y (.sl 1 (u.sch.key.map rowI)), .y (.sl 2 (u.sch.idx.map Idx.row))]] (St (schBytes u.sch)) := fun u hu => sSchemaBytes_ok u.sch (hb2 u hu).2.1 (hg u hu).2.1 (hb u hu).2.1
  have cKb : opsRight l = true → ∀ u ∈ l, ¬ u.kind = 1 → CallOK Tryz.prog 20 [.c (.y (.sl 3 (u.row_.map Val.row)))] (St (keyBytes u.row_)) := fun h u hu h1 => by
    have hv := opOk_row ((opsRight_of h).2 u hu) h1
    have := sKey_ok u.row_ hv (fun v hv' => ((hg u hu).2.2.1 v hv').2.1)
    rw [keyBytes, ite_t hv]
    exact this
  have ck : ∀ u ∈ l, I64 u.kind := fun u hu => (hg u hu).1
  have zO : opsRight l = true → ∀ i, i ≤ l.length → (opsTo l i).size ≤ 40030 * (i + 1) := fun h => opsTo_size (opsRight_of h).1 ck
  have hsm := fun h => (@opsRight_of l h).1
  have O0 : opsTo l 0 = putNum (Int.ofNat l.length) := rfl
  have O1 : ∀ i u, l[i]? = some u → opsTo l (i + 1) = (opsTo l i ++ putNum u.kind) ++ opTail u := fun i u h => by
    rw [opsTo, List.getD_eq_getElem?_getD, h]; rfl
  have t1 : ∀ u : Opn, u.kind = 1 → opTail u = putText (schBytes u.sch) := fun u h => if_pos h
  have t2 : ∀ u : Opn, ¬ u.kind = 1 → opTail u = putText u.table ++ putText (keyBytes u.row_) := fun u h => if_neg h
  have ne0 : ∀ i, (opsTo l i).size ≠ 0 := opsTo_ne l
  have qt : opsRight l = true → opsBytes l = opsTo l l.length := fun h => by rw [opsBytes, ite_t h]
  have qf : opsRight l = false → opsBytes l = ⟨⟨[]⟩⟩ := fun h => by rw [opsBytes, ite_f h]
  have lng : 20 < l.length → opsRight l = false := fun h => by
    rw [Bool.eq_false_iff]
    intro e
    have := (opsRight_of e).1
    omega
  obtain ⟨O, hO⟩ : ∃ f, f = opsTo l := ⟨_, rfl⟩
  obtain ⟨q, hq⟩ : ∃ q, q = opsBytes l := ⟨_, rfl⟩
  rw [← hO] at zO O0 O1 ne0 qt
  rw [← hq] at qt qf ⊢
  clear hO hq
  obtain ⟨pn, hpn⟩ : ∃ f, f = putNum := ⟨_, rfl⟩
  obtain ⟨pt, hpt⟩ : ∃ f, f = putText := ⟨_, rfl⟩
  obtain ⟨sb, hsb⟩ : ∃ f, f = schBytes := ⟨_, rfl⟩
  obtain ⟨kb, hkb⟩ : ∃ f, f = keyBytes := ⟨_, rfl⟩
  obtain ⟨ot, hot⟩ : ∃ f, f = opTail := ⟨_, rfl⟩
  rw [← hpn] at cN zN O0 O1
  rw [← hpt] at cT zT t1 t2
  rw [← hsb] at cSc t1
  rw [← hkb] at cKb t2
  rw [← hot] at O1 t1 t2
  obtain ⟨R, hR⟩ : ∃ R, R = opsRight l := ⟨_, rfl⟩
  rw [← hR] at cR cKb zO hsm qt qf lng
  clear hpn hpt hsb hkb hot hR
  obtain ⟨xs, hx⟩ : ∃ xs, xs = l.map Opn.row := ⟨_, rfl⟩
  have hxl : xs.length = l.length := by rw [hx, List.length_map]
  rw [← hx] at cR ⊢
  obtain ⟨n, hn⟩ : ∃ n, n = l.length := ⟨_, rfl⟩
  rw [← hn] at hxl zO hsm O0 qt lng
  clear hb hb2 hg hl
  obtain ⟨M, hM⟩ := mapEx
  try simp only [hM]
  refine go Tryz.func6 rfl rfl rfl rfl fun pAdd pSub pMul pQuo pRem pAnd pOr pXor pAndNot pShl pShr pNeg pCompl pConv pLt pLe pEq pSlt pSle pSeq pCat pCatOk pSlen pSsub pSat pIadd pIsub pBnot pBeq pImin pImax pLlen pLsub pLapp pLset pLcopy pLenOk pBytes pRep hF Ca hC r hr => ?_
  cbv
  have ex : pLlen xs = Int.ofNat n := (llenIs hF _).trans (by rw [hxl]; rfl)
  have ev : ∀ n : Nat, n ≤ 1000 → pConv .i64 (Int.ofNat n) = Int.ofNat n := fun n h => by cases hF; exact wrap_i64 (by ((try simp only [Int.ofNat_eq_natCast] at *); omega)) (by ((try simp only [Int.ofNat_eq_natCast] at *); omega))
  have cok : ∀ a b : ByteArray, a.size + b.size ≤ 9223372036854775807 → pCatOk a b = true := fun a b h => catOkIs hF h
  have ecat : ∀ a b : ByteArray, pCat a b = a ++ b := catIs hF
  rw [ex]
  refine brkI (fun h => ?_) (fun h => ?_) <;> try cbv
  · have h := ltT hF h
    exact retS hr (qf (lng (by ((try simp only [Int.ofNat_eq_natCast] at *); omega))))
  refine callB hC cR (fun hR => ?_) (fun hR => ?_) <;> try cbv
  rotate_left
  · exact retS hr (qf hR)
  subst hR
  have zO := zO rfl
  have qt := qt rfl
  have n20 := hsm rfl
  clear qf lng hsm
  rw [ex]
  try rw [ev n (by omega)]
  refine callI hC (cN _ (i64nat (by omega))) ?_
  rw [← O0]
  obtain ⟨t0, ht0⟩ : ∃ t, t = O 0 := ⟨_, rfl⟩
  rw [← ht0]
  cbv
  refine loop_u (α := Nat × ByteArray) (fun (i, t) st => (st.n 4 (Int.ofNat i)).str 3 t) (fun x => x.1 ≤ n ∧ x.2 = O x.1) (fun x => n - x.1) (0, t0) rfl ⟨Nat.zero_le _, ht0⟩ (fun K' hK I x hx' ih => ?_)
  obtain ⟨i, t⟩ := x
  obtain ⟨hi', ht⟩ := hx'
  dsimp only at hi' ht
  cbv
  rw [ex]
  have hts := zO i hi'
  rw [← ht] at hts
  refine brkI (fun h => ?_) (fun h => ?_) <;> try cbv
  · skip
    have h := ltT hF h
    have hs : i < l.length := by ((try simp only [Int.ofNat_eq_natCast] at *); omega)
    have e1 : pAdd .i64 (Int.ofNat i) 1 = Int.ofNat (i + 1) := add1Is hF (by omega)
    obtain ⟨u, hu⟩ : ∃ u, u = l[i] := ⟨_, rfl⟩
    have hu2 : l[i]? = some u := by rw [List.getElem?_eq_getElem hs, hu]
    have hum : u ∈ l := hu ▸ List.getElem_mem hs
    have cu := O1 i u hu2
    have cS := cSc u hum
    have cK := cKb rfl u hum
    have hk := ck u hum
    have tu1 := t1 u
    have tu2 := t2 u
    have hl : LGet xs (Int.ofNat i) (Opn.row u) := ⟨Int.natCast_nonneg i, by rw [show (Int.ofNat i).toNat = i from rfl, hx, List.getElem?_map, hu2]; rfl⟩
    simp only [Opn.row] at hl
    obtain ⟨ucs, hucs⟩ : ∃ x, x = u.sch.cols.map Col.row := ⟨_, rfl⟩
    obtain ⟨uks, huks⟩ : ∃ x, x = u.sch.key.map rowI := ⟨_, rfl⟩
    obtain ⟨uix, huix⟩ : ∃ x, x = u.sch.idx.map Idx.row := ⟨_, rfl⟩
    obtain ⟨uvs, huvs⟩ : ∃ x, x = u.row_.map Val.row := ⟨_, rfl⟩
    obtain ⟨un, hun⟩ : ∃ x, x = u.sch.name := ⟨_, rfl⟩
    obtain ⟨uk, huk⟩ : ∃ x, x = u.kind := ⟨_, rfl⟩
    obtain ⟨utb, hutb⟩ : ∃ x, x = u.table := ⟨_, rfl⟩
    rw [← hucs, ← huks, ← huix, ← huvs, ← hun, ← huk, ← hutb] at hl
    rw [← hucs, ← huks, ← huix, ← hun] at cS
    rw [← huvs, ← huk] at cK
    rw [← huk] at cu hk tu1 tu2
    rw [← hutb] at tu2
    obtain ⟨tl, htl⟩ : ∃ x, x = ot u := ⟨_, rfl⟩
    rw [← htl] at cu tu1 tu2
    obtain ⟨sbu, hsbu⟩ : ∃ x, x = sb u.sch := ⟨_, rfl⟩
    rw [← hsbu] at cS tu1
    obtain ⟨kbu, hkbu⟩ : ∃ x, x = kb u.row_ := ⟨_, rfl⟩
    rw [← hkbu] at cK tu2
    clear hucs huks huix huvs hun huk hutb htl hsbu hkbu
    refine Exists.intro [yN uk, yS utb, yS un, .sl 3 ucs, .sl 1 uks, .sl 2 uix, .sl 3 uvs] ?_
    cbv
    refine And.intro hl ?_
    refine callI hC (cN uk hk) ?_
    obtain ⟨d1, hd1⟩ : ∃ b, b = pn uk := ⟨_, rfl⟩
    have zd1 := zN _ hk
    rw [← hd1] at zd1 cu ⊢
    cbv
    refine brT (cok _ _ (by omega)) ?_
    try cbv
    refine Exists.intro [yN uk, yS utb, yS un, .sl 3 ucs, .sl 1 uks, .sl 2 uix, .sl 3 uvs] ?_
    cbv
    refine And.intro hl ?_
    obtain ⟨t2, ht2⟩ : ∃ x, x = pCat t d1 := ⟨_, rfl⟩
    have ht2s : t2.size ≤ 40030 * (i + 1) + 10 := by rw [ht2, ecat, ByteArray.size_append]; omega
    rw [← ht2]
    have ht2 : t2 = O i ++ d1 := by rw [ht2, ht]; exact ecat _ _
    rw [← ht2] at cu
    refine brkI (fun g1 => ?_) (fun g1 => ?_) <;> try cbv
    · have g1 : uk = 1 := eqT hF g1
      have tu1 := tu1 g1
      refine Exists.intro [yN uk, yS utb, yS un, .sl 3 ucs, .sl 1 uks, .sl 2 uix, .sl 3 uvs] ?_
      cbv
      refine And.intro hl ?_
      refine callI hC cS ?_
      cbv
      refine callI hC (cT sbu) ?_
      have zd2 := zT sbu
      rw [← tu1] at zd2 ⊢
      cbv
      refine brT (cok _ _ (by omega)) ?_
      try cbv
      conv => arg 1; cbv
      rw [e1]
      refine ih (i + 1, _) _ ⟨by dsimp only; omega, ?_⟩ (by dsimp only; omega) rfl
      dsimp only
      rw [cu]; exact ecat _ _
    · have g1 : ¬ uk = 1 := eqF hF g1
      have tu2 := tu2 g1
      have cK := cK g1
      refine Exists.intro [yN uk, yS utb, yS un, .sl 3 ucs, .sl 1 uks, .sl 2 uix, .sl 3 uvs] ?_
      cbv
      refine And.intro hl ?_
      refine callI hC (cT utb) ?_
      obtain ⟨d2, hd2⟩ : ∃ b, b = pt utb := ⟨_, rfl⟩
      have zd2 := zT utb
      rw [← hd2] at zd2 tu2 ⊢
      cbv
      refine brT (cok _ _ (by omega)) ?_
      try cbv
      refine Exists.intro [yN uk, yS utb, yS un, .sl 3 ucs, .sl 1 uks, .sl 2 uix, .sl 3 uvs] ?_
      cbv
      refine And.intro hl ?_
      refine callI hC cK ?_
      cbv
      refine callI hC (cT kbu) ?_
      obtain ⟨d3, hd3⟩ : ∃ b, b = pt kbu := ⟨_, rfl⟩
      have zd3 := zT kbu
      rw [← hd3] at zd3 tu2 ⊢
      cbv
      refine brT (cok _ _ (by rw [ecat, ByteArray.size_append]; omega)) ?_
      try cbv
      conv => arg 1; cbv
      rw [e1]
      refine ih (i + 1, _) _ ⟨by dsimp only; omega, ?_⟩ (by dsimp only; omega) rfl
      dsimp only
      rw [cu, tu2, ← ByteArray.append_assoc]; exact (ecat _ _).trans (by rw [ecat])
  · have h := ltF hF h
    have hin : i = n := by ((try simp only [Int.ofNat_eq_natCast] at *); omega)
    refine hK _ _ ?_
    cbv
    exact retS hr (by rw [qt, ht, hin])
theorem iOpsBytes_ok (l : List Opn) (hl : l.length ≤ maxLen) (hb : ∀ v ∈ l, Opn.Bd maxLen v) (hb2 : ∀ v ∈ l, Opn.Bd 1048576 v) (hg : ∀ v ∈ l, Opn.Rg v) : CallOK Tryz.prog 8 [.c (.y (.sl 7 (l.map Opn.row)))] (St (opsBytes l)) := by
  have cR := iOpsRight_ok l hl hb hb2
  have cN := iPutNum_ok
  have cT := iPutText_ok
  have zN : ∀ n, I64 n → (putNum n).size ≤ 10 := putNum_size
  have zT := putText_size
  have cSc : ∀ u ∈ l, CallOK Tryz.prog 27 [.agg [.y (yS u.sch.name), .y (.sl 3 (u.sch.cols.map Col.row)), .y (.sl 1 (u.sch.key.map rowI)), .y (.sl 2 (u.sch.idx.map Idx.row))]] (St (schBytes u.sch)) := fun u hu => iSchemaBytes_ok u.sch (hb2 u hu).2.1 (hg u hu).2.1 (hb u hu).2.1
  have cKb : opsRight l = true → ∀ u ∈ l, ¬ u.kind = 1 → CallOK Tryz.prog 28 [.c (.y (.sl 3 (u.row_.map Val.row)))] (St (keyBytes u.row_)) := fun h u hu h1 =>
    iKeyBytes_ok u.row_ (hb u hu).2.2.1.1 (fun v hv' => ((hg u hu).2.2.1 v hv').2.1)
  have ck : ∀ u ∈ l, I64 u.kind := fun u hu => (hg u hu).1
  have zO : opsRight l = true → ∀ i, i ≤ l.length → (opsTo l i).size ≤ 40030 * (i + 1) := fun h => opsTo_size (opsRight_of h).1 ck
  have hsm := fun h => (@opsRight_of l h).1
  have O0 : opsTo l 0 = putNum (Int.ofNat l.length) := rfl
  have O1 : ∀ i u, l[i]? = some u → opsTo l (i + 1) = (opsTo l i ++ putNum u.kind) ++ opTail u := fun i u h => by
    rw [opsTo, List.getD_eq_getElem?_getD, h]; rfl
  have t1 : ∀ u : Opn, u.kind = 1 → opTail u = putText (schBytes u.sch) := fun u h => if_pos h
  have t2 : ∀ u : Opn, ¬ u.kind = 1 → opTail u = putText u.table ++ putText (keyBytes u.row_) := fun u h => if_neg h
  have ne0 : ∀ i, (opsTo l i).size ≠ 0 := opsTo_ne l
  have qt : opsRight l = true → opsBytes l = opsTo l l.length := fun h => by rw [opsBytes, ite_t h]
  have qf : opsRight l = false → opsBytes l = ⟨⟨[]⟩⟩ := fun h => by rw [opsBytes, ite_f h]
  have lng : 20 < l.length → opsRight l = false := fun h => by
    rw [Bool.eq_false_iff]
    intro e
    have := (opsRight_of e).1
    omega
  obtain ⟨O, hO⟩ : ∃ f, f = opsTo l := ⟨_, rfl⟩
  obtain ⟨q, hq⟩ : ∃ q, q = opsBytes l := ⟨_, rfl⟩
  rw [← hO] at zO O0 O1 ne0 qt
  rw [← hq] at qt qf ⊢
  clear hO hq
  obtain ⟨pn, hpn⟩ : ∃ f, f = putNum := ⟨_, rfl⟩
  obtain ⟨pt, hpt⟩ : ∃ f, f = putText := ⟨_, rfl⟩
  obtain ⟨sb, hsb⟩ : ∃ f, f = schBytes := ⟨_, rfl⟩
  obtain ⟨kb, hkb⟩ : ∃ f, f = keyBytes := ⟨_, rfl⟩
  obtain ⟨ot, hot⟩ : ∃ f, f = opTail := ⟨_, rfl⟩
  rw [← hpn] at cN zN O0 O1
  rw [← hpt] at cT zT t1 t2
  rw [← hsb] at cSc t1
  rw [← hkb] at cKb t2
  rw [← hot] at O1 t1 t2
  obtain ⟨R, hR⟩ : ∃ R, R = opsRight l := ⟨_, rfl⟩
  rw [← hR] at cR cKb zO hsm qt qf lng
  clear hpn hpt hsb hkb hot hR
  obtain ⟨xs, hx⟩ : ∃ xs, xs = l.map Opn.row := ⟨_, rfl⟩
  have hxl : xs.length = l.length := by rw [hx, List.length_map]
  rw [← hx] at cR ⊢
  obtain ⟨n, hn⟩ : ∃ n, n = l.length := ⟨_, rfl⟩
  rw [← hn] at hxl zO hsm O0 qt lng
  clear hb hb2 hg hl
  obtain ⟨M, hM⟩ := mapEx
  try simp only [hM]
  refine go Tryz.func8 rfl rfl rfl rfl fun pAdd pSub pMul pQuo pRem pAnd pOr pXor pAndNot pShl pShr pNeg pCompl pConv pLt pLe pEq pSlt pSle pSeq pCat pCatOk pSlen pSsub pSat pIadd pIsub pBnot pBeq pImin pImax pLlen pLsub pLapp pLset pLcopy pLenOk pBytes pRep hF Ca hC r hr => ?_
  cbv
  have ex : pLlen xs = Int.ofNat n := (llenIs hF _).trans (by rw [hxl]; rfl)
  have ev : ∀ n : Nat, n ≤ 1000 → pConv .i64 (Int.ofNat n) = Int.ofNat n := fun n h => by cases hF; exact wrap_i64 (by ((try simp only [Int.ofNat_eq_natCast] at *); omega)) (by ((try simp only [Int.ofNat_eq_natCast] at *); omega))
  have cok : ∀ a b : ByteArray, a.size + b.size ≤ 9223372036854775807 → pCatOk a b = true := fun a b h => catOkIs hF h
  have ecat : ∀ a b : ByteArray, pCat a b = a ++ b := catIs hF
  rw [ex]
  refine callB hC (isManyB_ok (Int.ofNat n)) (fun h => ?_) (fun h => ?_) <;> try cbv
  · have h := of_decide_eq_true h
    exact retS hr (qf (lng (by ((try simp only [Int.ofNat_eq_natCast] at *); omega))))
  refine callB hC cR (fun hR => ?_) (fun hR => ?_) <;> try cbv
  rotate_left
  · exact retS hr (qf hR)
  subst hR
  have zO := zO rfl
  have qt := qt rfl
  have n20 := hsm rfl
  clear qf lng hsm
  rw [ex]
  try rw [ev n (by omega)]
  refine callI hC (cN _ (i64nat (by omega))) ?_
  rw [← O0]
  obtain ⟨p0, hp0⟩ : ∃ t, t = O 0 := ⟨_, rfl⟩
  have hp0s := zO 0 (Nat.zero_le _)
  rw [← hp0] at hp0s ⊢
  cbv
  obtain ⟨t0, ht0⟩ : ∃ t : ByteArray, t = ⟨⟨[]⟩⟩ ++ p0 := ⟨_, rfl⟩
  obtain ⟨m0, hm0⟩ : ∃ m : Int, m = (p0.size : Int) := ⟨_, rfl⟩
  have hw0 := wsS_at ht0 hm0 (by show 0 + p0.size ≤ _; omega)
  clear hm0
  refine callI hC hw0 ?_
  have ht0 : t0 = O 0 := by rw [ht0, ← hp0]; exact ByteArray.empty_append
  cbv
  rw [ex]
  refine loop_u (α := Nat × ByteArray) (fun (i, t) st => (st.n 20 (Int.ofNat i)).ob 3000 (.op (.bd 66 5 t))) (fun x => x.1 ≤ n ∧ x.2 = O x.1) (fun x => n - x.1) (0, t0) rfl ⟨Nat.zero_le _, ht0⟩ (fun K' hK I x hx' ih => ?_)
  obtain ⟨i, t⟩ := x
  obtain ⟨hi', ht⟩ := hx'
  dsimp only at hi' ht
  cbv
  have hts := zO i hi'
  rw [← ht] at hts
  refine brkI (fun h => ?_) (fun h => ?_) <;> try cbv
  · skip
    have h := ltT hF h
    have hs : i < l.length := by ((try simp only [Int.ofNat_eq_natCast] at *); omega)
    have e1 : pAdd .i64 (Int.ofNat i) 1 = Int.ofNat (i + 1) := add1Is hF (by omega)
    obtain ⟨u, hu⟩ : ∃ u, u = l[i] := ⟨_, rfl⟩
    have hu2 : l[i]? = some u := by rw [List.getElem?_eq_getElem hs, hu]
    have hum : u ∈ l := hu ▸ List.getElem_mem hs
    have cu := O1 i u hu2
    have cS := cSc u hum
    have cK := cKb rfl u hum
    have hk := ck u hum
    have tu1 := t1 u
    have tu2 := t2 u
    have hl : LGet xs (Int.ofNat i) (Opn.row u) := ⟨Int.natCast_nonneg i, by rw [show (Int.ofNat i).toNat = i from rfl, hx, List.getElem?_map, hu2]; rfl⟩
    simp only [Opn.row] at hl
    obtain ⟨ucs, hucs⟩ : ∃ x, x = u.sch.cols.map Col.row := ⟨_, rfl⟩
    obtain ⟨uks, huks⟩ : ∃ x, x = u.sch.key.map rowI := ⟨_, rfl⟩
    obtain ⟨uix, huix⟩ : ∃ x, x = u.sch.idx.map Idx.row := ⟨_, rfl⟩
    obtain ⟨uvs, huvs⟩ : ∃ x, x = u.row_.map Val.row := ⟨_, rfl⟩
    obtain ⟨un, hun⟩ : ∃ x, x = u.sch.name := ⟨_, rfl⟩
    obtain ⟨uk, huk⟩ : ∃ x, x = u.kind := ⟨_, rfl⟩
    obtain ⟨utb, hutb⟩ : ∃ x, x = u.table := ⟨_, rfl⟩
    rw [← hucs, ← huks, ← huix, ← huvs, ← hun, ← huk, ← hutb] at hl
    rw [← hucs, ← huks, ← huix, ← hun] at cS
    rw [← huvs, ← huk] at cK
    rw [← huk] at cu hk tu1 tu2
    rw [← hutb] at tu2
    obtain ⟨tl, htl⟩ : ∃ x, x = ot u := ⟨_, rfl⟩
    rw [← htl] at cu tu1 tu2
    obtain ⟨sbu, hsbu⟩ : ∃ x, x = sb u.sch := ⟨_, rfl⟩
    rw [← hsbu] at cS tu1
    obtain ⟨kbu, hkbu⟩ : ∃ x, x = kb u.row_ := ⟨_, rfl⟩
    rw [← hkbu] at cK tu2
    clear hucs huks huix huvs hun huk hutb htl hsbu hkbu
    refine Exists.intro [yN uk, yS utb, yS un, .sl 3 ucs, .sl 1 uks, .sl 2 uix, .sl 3 uvs] ?_
    cbv
    refine And.intro hl ?_
    refine callI hC (cN uk hk) ?_
    obtain ⟨d1, hd1⟩ : ∃ b, b = pn uk := ⟨_, rfl⟩
    have zd1 := zN _ hk
    rw [← hd1] at zd1 cu ⊢
    cbv
    obtain ⟨t2, ht2⟩ : ∃ x, x = t ++ d1 := ⟨_, rfl⟩
    have ht2s : t2.size ≤ 40030 * (i + 1) + 10 := by rw [ht2, ByteArray.size_append]; omega
    obtain ⟨m1, hm1⟩ : ∃ m : Int, m = (d1.size : Int) := ⟨_, rfl⟩
    have hw1 := wsS_at ht2 hm1 (by omega)
    clear hm1
    refine callI hC hw1 ?_
    rw [← ht, ← ht2] at cu
    cbv
    refine brkI (fun g1 => ?_) (fun g1 => ?_) <;> try cbv
    · have g1 : uk = 1 := eqT hF g1
      have tu1 := tu1 g1
      refine callI hC cS ?_
      cbv
      refine callI hC (cT sbu) ?_
      have zd2 := zT sbu
      rw [← tu1] at zd2 ⊢
      cbv
      obtain ⟨m2, hm2⟩ : ∃ m : Int, m = (tl.size : Int) := ⟨_, rfl⟩
      have hw2 := wsS_at cu hm2 (by omega)
      clear hm2
      obtain ⟨t3, ht3⟩ : ∃ x, x = O (i + 1) := ⟨_, rfl⟩
      rw [← ht3] at hw2
      refine callI hC hw2 ?_
      cbv
      conv => arg 1; cbv
      rw [e1]
      exact ih (i + 1, t3) _ ⟨by dsimp only; omega, ht3⟩ (by dsimp only; omega) rfl
    · have g1 : ¬ uk = 1 := eqF hF g1
      have tu2 := tu2 g1
      have cK := cK g1
      refine callI hC (cT utb) ?_
      obtain ⟨d2, hd2⟩ : ∃ b, b = pt utb := ⟨_, rfl⟩
      have zd2 := zT utb
      rw [← hd2] at zd2 tu2 ⊢
      cbv
      refine callI hC cK ?_
      cbv
      refine callI hC (cT kbu) ?_
      obtain ⟨d3, hd3⟩ : ∃ b, b = pt kbu := ⟨_, rfl⟩
      have zd3 := zT kbu
      rw [← hd3] at zd3 tu2 ⊢
      cbv
      refine brT (cok _ _ (by omega)) ?_
      try cbv
      have etl : pCat d2 d3 = tl := by rw [tu2]; exact ecat _ _
      have ztl : tl.size ≤ 40020 := by rw [tu2, ByteArray.size_append]; omega
      rw [etl]
      obtain ⟨m2, hm2⟩ : ∃ m : Int, m = (tl.size : Int) := ⟨_, rfl⟩
      have hw2 := wsS_at cu hm2 (by omega)
      clear hm2
      obtain ⟨t3, ht3⟩ : ∃ x, x = O (i + 1) := ⟨_, rfl⟩
      rw [← ht3] at hw2
      refine callI hC hw2 ?_
      cbv
      conv => arg 1; cbv
      rw [e1]
      exact ih (i + 1, t3) _ ⟨by dsimp only; omega, ht3⟩ (by dsimp only; omega) rfl
  · have h := ltF hF h
    have hin : i = n := by ((try simp only [Int.ofNat_eq_natCast] at *); omega)
    refine hK _ _ ?_
    cbv
    refine callI hC (bstrS_ok t (by rw [ht]; exact ne0 i)) ?_
    cbv
    exact retS hr (by rw [qt, ht, hin])
end Go.Proofs.YtemfaiabbonpnaaGreatDoor
