/- Functions of the program, each with what it returns, run by the evaluator; the conditions stand in the theorems. -/
import Derived.Test.YtemfaiabbonpnaaGreatDoorLTab3
namespace Go.Proofs.YtemfaiabbonpnaaGreatDoor
open Go Go.Proofs.YtemfaiabbonpnaaGreatDoorW Go.Proofs
set_option linter.unusedVariables false
set_option linter.unusedSimpArgs false
set_option maxRecDepth 100000
set_option maxHeartbeats 8000000
/-- One way on, from many places. -/
theorem cutG {G H R : Prop} (f : (H → G) → R) (g : H → G) : R := f g
def tabAt (t : Tbl) (i : Nat) : Bool := rowOk t.sch (t.rows.getD i []) && (decide (i = 0) || decide (cmpLs (pk (t.rows.getD (i - 1) []) t.sch.key) (pk (t.rows.getD i []) t.sch.key) < 0)) && allTo (fun k => !clashB t.sch (t.rows.getD i []) (t.rows.getD k [])) i
def tabRight (t : Tbl) : Bool := schRight t.sch && decide (t.rows.length ≤ 60) && allTo (tabAt t) t.rows.length
theorem tabRight_sch {t : Tbl} (h : schRight t.sch = false) : tabRight t = false := by rw [tabRight, h]; rfl
theorem tabRight_long {t : Tbl} (h : 60 < t.rows.length) : tabRight t = false := by rw [tabRight, decide_eq_false (p := t.rows.length ≤ 60) (by omega), Bool.and_false]; rfl
theorem tabRight_bad {t : Tbl} {i : Nat} (h : i < t.rows.length) (hp : tabAt t i = false) : tabRight t = false := by rw [tabRight, allTo_false h hp, Bool.and_false]
theorem key_len {s : Sch} (hb : Sch.Bd 1048576 s) : s.key.length ≤ 1048576 := hb.2.2.1
theorem sKey_ok (s : Sch) (row : List Val) (hb : Sch.Bd 1048576 s) (pr : Placed s row) : CallOK Tryz.prog 96 [.agg [.y (yS s.name), .y (.sl 3 (s.cols.map Col.row)), .y (.sl 1 (s.key.map rowI)), .y (.sl 2 (s.idx.map Idx.row))], .c (.y (.sl 3 (row.map Val.row)))] ⟨.c (.own 3 ((pk row s.key).map Val.row)), []⟩ := by
  have c := l03Pick_ok row s.key (key_len hb) pr.key
  rw [show pickTo row s.key s.key.length = pk row s.key from rfl] at c
  obtain ⟨A', hA'⟩ : ∃ x, x = pk row s.key := ⟨_, rfl⟩
  rw [← hA'] at c ⊢
  obtain ⟨M, hM⟩ := mapEx
  try simp only [hM]
  refine go Tryz.func96 rfl rfl rfl rfl fun pAdd pSub pMul pQuo pRem pAnd pOr pXor pAndNot pShl pShr pNeg pCompl pConv pLt pLe pEq pSlt pSle pSeq pCat pCatOk pSlen pSsub pSat pIadd pIsub pBnot pBeq pImin pImax pLlen pLsub pLapp pLset pLcopy pLenOk pBytes pRep hF Ca hC r hr => ?_
  cbv
  refine callI hC (by have hh := c; (try simp only [hM] at hh); exact hh) ?_
  cbv
  exact hr.symm
theorem iKey_ok (s : Sch) (row : List Val) (hb : Sch.Bd 1048576 s) (pr : Placed s row) : CallOK Tryz.prog 101 [.agg [.y (yS s.name), .y (.sl 3 (s.cols.map Col.row)), .y (.sl 1 (s.key.map rowI)), .y (.sl 2 (s.idx.map Idx.row))], .c (.y (.sl 3 (row.map Val.row)))] ⟨.c (.own 3 ((pk row s.key).map Val.row)), []⟩ := by
  have c := ipick_ok row s.key (key_len hb) pr.key
  rw [show pickTo row s.key s.key.length = pk row s.key from rfl] at c
  obtain ⟨A', hA'⟩ : ∃ x, x = pk row s.key := ⟨_, rfl⟩
  rw [← hA'] at c ⊢
  obtain ⟨M, hM⟩ := mapEx
  try simp only [hM]
  refine go Tryz.func101 rfl rfl rfl rfl fun pAdd pSub pMul pQuo pRem pAnd pOr pXor pAndNot pShl pShr pNeg pCompl pConv pLt pLe pEq pSlt pSle pSeq pCat pCatOk pSlen pSsub pSat pIadd pIsub pBnot pBeq pImin pImax pLlen pLsub pLapp pLset pLcopy pLenOk pBytes pRep hF Ca hC r hr => ?_
  cbv
  refine callI hC (by have hh := c; (try simp only [hM] at hh); exact hh) ?_
  cbv
  exact hr.symm
theorem big_sch {s : Sch} (h : Sch.Bd 1048576 s) : Sch.Bd maxLen s := by
  have hm : 1048576 ≤ maxLen := by rw [maxLen_is]; omega
  exact ⟨Nat.le_trans h.1 hm, ⟨Nat.le_trans h.2.1.1 hm, fun u hu => ⟨Nat.le_trans (h.2.1.2 u hu).1 hm, trivial⟩⟩, Nat.le_trans h.2.2.1 hm, ⟨Nat.le_trans h.2.2.2.1.1 hm, fun u hu => ⟨Nat.le_trans (h.2.2.2.1.2 u hu).1 hm, trivial⟩⟩, trivial⟩
theorem sTableRight_ok (t : Tbl) (hb : Tbl.Bd 1048576 t) : CallOK Tryz.prog 61 [.agg [.y (yS t.sch.name), .y (.sl 3 (t.sch.cols.map Col.row)), .y (.sl 1 (t.sch.key.map rowI)), .y (.sl 2 (t.sch.idx.map Idx.row)), .y (.sl 1 (t.rows.map rowVs))]] (B (tabRight t)) := by
  have c1 := sSchemaRight_ok t.sch (big_sch hb.1)
  have hsb := hb.1
  have hrl := hb.2.1.1
  have hrb := hb.2.1.2
  obtain ⟨q, hq⟩ : ∃ q, q = tabRight t := ⟨_, rfl⟩
  rw [← hq]
  obtain ⟨n, hn⟩ : ∃ n, n = t.rows.length := ⟨_, rfl⟩
  rw [← hn] at hrl
  have row_ok := fun (u : List Val) (hu : u ∈ t.rows) => sRow_ok t.sch u (Nat.le_trans (hrb u hu).1 (by decide))
  have cmp_ok := fun (a b : List Val) (h : a.length ≤ maxLen) => sCmp_ok a b h
  have key_ok := fun (u : List Val) (h : Placed t.sch u) => sKey_ok t.sch u hsb h
  have clash_ok := fun (a b : List Val) (ha : Placed t.sch a) (hb : Placed t.sch b) => sClash_ok t.sch a b hsb ha hb
  obtain ⟨M, hM⟩ := mapEx
  try simp only [hM]
  refine go Tryz.func61 rfl rfl rfl rfl fun pAdd pSub pMul pQuo pRem pAnd pOr pXor pAndNot pShl pShr pNeg pCompl pConv pLt pLe pEq pSlt pSle pSeq pCat pCatOk pSlen pSsub pSat pIadd pIsub pBnot pBeq pImin pImax pLlen pLsub pLapp pLset pLcopy pLenOk pBytes pRep hF Ca hC r hr => ?_
  cbv
  have lr : pLlen (M rowVs t.rows) = Int.ofNat n := (llenIs hF _).trans (by rw [← hM, List.length_map, ← hn]; rfl)
  refine callB hC (by have hh := c1; (try simp only [hM] at hh); exact hh) (fun h1 => ?_) (fun h1 => ?_) <;> try cbv
  · rw [lr]
    refine brkI (fun h => ?_) (fun h => ?_) <;> try cbv
    · exact retB hr (hq.trans (tabRight_long (by have h := ltT hF h; rw [← hn]; ((try simp only [Int.ofNat_eq_natCast] at *); omega))))
    have h60 : n ≤ 60 := by have h := ltF hF h; ((try simp only [Int.ofNat_eq_natCast] at *); omega)
    refine loop_all (fun a st => st.n 3 (Int.ofNat a)) (tabAt t) n rfl (fun K' hK I i hi hp ih => ?_)
    cbv
    rw [lr]
    refine brkI (fun h0 => ?_) (fun h0 => ?_) <;> try cbv
    · have h0 := ltT hF h0
      have hs : i < t.rows.length := by rw [← hn]; ((try simp only [Int.ofNat_eq_natCast] at *); omega)
      have e1 : pAdd .i64 (Int.ofNat i) 1 = Int.ofNat (i + 1) := add1Is hF (by omega)
      obtain ⟨u, hu⟩ : ∃ u, u = t.rows[i] := ⟨_, rfl⟩
      have hum : u ∈ t.rows := hu ▸ List.getElem_mem hs
      have ku : t.rows.getD i [] = u := getD_of hs hu
      have get : ∀ {K : List Y → Prop}, K [.sl 3 (M Val.row u)] → ∃ x, LGet (M rowVs t.rows) (Int.ofNat i) x ∧ K x := fun k =>
        lgetM (l := t.rows) (fun u => [.sl 3 (M Val.row u)]) (fun u => by simp only [rowVs, hM]) (hM _ _).symm hs fun v hv => by
          rw [show v = u from hv.trans hu.symm]; exact k
      have bad : tabAt t i = false → q = false := fun h => hq.trans (tabRight_bad hs h)
      have rowsOk : ∀ j, j < i → rowOk t.sch (t.rows.getD j []) = true := fun j hj => by
        have := hp j hj
        rw [tabAt, Bool.and_eq_true, Bool.and_eq_true] at this
        exact this.1.1
      have at_ : tabAt t i = (rowOk t.sch u && (decide (i = 0) || decide (cmpLs (pk (t.rows.getD (i - 1) []) t.sch.key) (pk u t.sch.key) < 0)) && allTo (fun k => !clashB t.sch u (t.rows.getD k [])) i) := by rw [tabAt, ku]
      refine get ?_
      cbv
      refine callB hC (by have hh := row_ok u hum; (try simp only [hM] at hh); exact hh) (fun h2 => ?_) (fun h2 => ?_) <;> try cbv
      rotate_left
      · refine hK _ _ ?_
        cbv
        exact retB hr (bad (by rw [at_, h2]; rfl))
      have pu : Placed t.sch u := placed_of h1 h2
      have kl : ∀ v, (pk v t.sch.key).length ≤ maxLen := fun v => by rw [show (pk v t.sch.key).length = t.sch.key.length from pickTo_len ..]; exact Nat.le_trans (key_len hsb) (by rw [maxLen_is]; omega)
      -- the second half
      refine cutG (G := ?G) (H := (decide (i = 0) || decide (cmpLs (pk (t.rows.getD (i - 1) []) t.sch.key) (pk u t.sch.key) < 0)) = true) (fun key => ?main) (fun hord => ?rest)
      case' main =>
        refine brkI (fun h3 => ?_) (fun h3 => ?_) <;> try cbv
        · have h3 : 0 < i := by have h3 := ltT hF h3; ((try simp only [Int.ofNat_eq_natCast] at *); omega)
          have e4 : pSub .i64 (Int.ofNat i) 1 = Int.ofNat (i - 1) := by
            have e : pSub .i64 (Int.ofNat i) 1 = Int.ofNat i - 1 := subIs hF (by ((try simp only [Int.ofNat_eq_natCast] at *); omega)) (by ((try simp only [Int.ofNat_eq_natCast] at *); omega))
            rw [e]; ((try simp only [Int.ofNat_eq_natCast] at *); omega)
          have hs3 : i - 1 < t.rows.length := by omega
          rw [e4]
          obtain ⟨w, hw⟩ : ∃ w, w = t.rows[i - 1] := ⟨_, rfl⟩
          have kw : t.rows.getD (i - 1) [] = w := getD_of hs3 hw
          have pw : Placed t.sch w := placed_of h1 (kw ▸ rowsOk (i - 1) (by omega))
          refine lgetM (l := t.rows) (fun u => [.sl 3 (M Val.row u)]) (fun u => by simp only [rowVs, hM]) (hM _ _).symm hs3 fun v hv => ?_
          rw [show v = w from hv.trans hw.symm]
          cbv
          have k1 := key_ok w pw
          have k2 := key_ok u pu
          have k3 := cmp_ok (pk w t.sch.key) (pk u t.sch.key) (kl w)
          rw [kw] at key
          rw [kw] at at_
          obtain ⟨A', hA'⟩ : ∃ x, x = pk w t.sch.key := ⟨_, rfl⟩
          obtain ⟨B', hB'⟩ : ∃ x, x = pk u t.sch.key := ⟨_, rfl⟩
          rw [← hA'] at k1 k3 key at_
          rw [← hB'] at k2 k3 key at_
          obtain ⟨cm, hcm⟩ : ∃ x, x = cmpLs A' B' := ⟨_, rfl⟩
          rw [← hcm] at k3 key at_
          refine callI hC (by have hh := k1; (try simp only [hM] at hh); exact hh) ?_
          cbv
          refine get ?_
          cbv
          refine callI hC (by have hh := k2; (try simp only [hM] at hh); exact hh) ?_
          cbv
          refine callN hC (by have hh := k3; (try simp only [hM] at hh); exact hh) (fun m hm => ?_)
          cbv
          refine brkI (fun h4 => ?_) (fun h4 => ?_) <;> try cbv
          · have h4 := leT hF h4
            refine hK _ _ ?_
            cbv
            refine retB hr (bad ?_)
            rw [at_, decide_eq_false (p := i = 0) (by omega), decide_eq_false (p := cm < 0) (by omega), Bool.or_false, Bool.and_false, Bool.false_and]
          · have h4 := leF hF h4
            exact key (by rw [decide_eq_true (p := cm < 0) (by omega), Bool.or_true])
        · have h3 : i = 0 := by have h3 := ltF hF h3; ((try simp only [Int.ofNat_eq_natCast] at *); omega)
          exact key (by rw [decide_eq_true h3]; rfl)
      refine loop_all (fun a st => st.n 4 (Int.ofNat a)) (fun k => !clashB t.sch u (t.rows.getD k [])) i rfl (fun K2 hK2 I2 k hk hp2 ih2 => ?_)
      cbv
      refine brkI (fun h5 => ?_) (fun h5 => ?_) <;> try cbv
      · have h5 := ltT hF h5
        have hki : k < i := by ((try simp only [Int.ofNat_eq_natCast] at *); omega)
        have hs3 : k < t.rows.length := by omega
        have e2 : pAdd .i64 (Int.ofNat k) 1 = Int.ofNat (k + 1) := add1Is hF (by omega)
        refine get ?_
        cbv
        obtain ⟨w, hw⟩ : ∃ w, w = t.rows[k] := ⟨_, rfl⟩
        have kw : t.rows.getD k [] = w := getD_of hs3 hw
        have pw : Placed t.sch w := placed_of h1 (kw ▸ rowsOk k hki)
        refine lgetM (l := t.rows) (fun u => [.sl 3 (M Val.row u)]) (fun u => by simp only [rowVs, hM]) (hM _ _).symm hs3 fun v hv => ?_
        rw [show v = w from hv.trans hw.symm]
        cbv
        refine callB hC (by have hh := clash_ok u w pu pw; (try simp only [hM] at hh); exact hh) (fun h6 => ?_) (fun h6 => ?_) <;> try cbv
        · refine hK2 _ _ ?_
          cbv
          refine hK _ _ ?_
          cbv
          refine retB hr (bad ?_)
          rw [at_, allTo_false hki (by rw [kw, h6]; rfl), Bool.and_false]
        · conv => arg 1; cbv
          rw [e2]
          exact ih2 _ hki (by rw [kw, h6]; rfl) rfl
      · have h5 := ltF hF h5
        have hki : k = i := by ((try simp only [Int.ofNat_eq_natCast] at *); omega)
        subst hki
        refine hK2 _ _ ?_
        cbv
        conv => arg 1; cbv
        rw [e1]
        refine ih _ (by ((try simp only [Int.ofNat_eq_natCast] at *); omega)) ?_ rfl
        rw [at_, h2, hord, allTo_iff.2 hp2]; rfl
    · have h0 := ltF hF h0
      have him : i = n := by ((try simp only [Int.ofNat_eq_natCast] at *); omega)
      refine hK _ _ ?_
      cbv
      refine retB hr (hq.trans ?_)
      rw [tabRight, h1, decide_eq_true (p := t.rows.length ≤ 60) (by omega), allTo_iff.2 fun j hj => hp j (by rw [← hn] at hj; omega)]; rfl
  · exact retB hr (hq.trans (tabRight_sch h1))
theorem iTableRight_ok (t : Tbl) (hb : Tbl.Bd 1048576 t) : CallOK Tryz.prog 63 [.agg [.y (yS t.sch.name), .y (.sl 3 (t.sch.cols.map Col.row)), .y (.sl 1 (t.sch.key.map rowI)), .y (.sl 2 (t.sch.idx.map Idx.row)), .y (.sl 1 (t.rows.map rowVs))]] (B (tabRight t)) := by
  have c1 := iSchemaRight_ok t.sch (big_sch hb.1)
  have hsb := hb.1
  have hrl := hb.2.1.1
  have hrb := hb.2.1.2
  obtain ⟨q, hq⟩ : ∃ q, q = tabRight t := ⟨_, rfl⟩
  rw [← hq]
  obtain ⟨n, hn⟩ : ∃ n, n = t.rows.length := ⟨_, rfl⟩
  rw [← hn] at hrl
  have row_ok := fun (u : List Val) (hu : u ∈ t.rows) => iRow_ok t.sch u (Nat.le_trans (hrb u hu).1 (by decide))
  have cmp_ok := fun (a b : List Val) (h : a.length ≤ maxLen) => iCmp1_ok a b h
  have key_ok := fun (u : List Val) (h : Placed t.sch u) => iKey_ok t.sch u hsb h
  have clash_ok := fun (i : Nat) (row : List Val) (h : i ≤ t.rows.length) (pr : Placed t.sch row) (hc : ∀ u ∈ t.rows.take i, Placed t.sch u ∧ Rights u) => tabCl_cf t row (t.rows.take i) (by rw [List.length_take, maxLen_is]; omega) hsb pr hc
  obtain ⟨M, hM⟩ := mapEx
  try simp only [hM]
  refine go Tryz.func63 rfl rfl rfl rfl fun pAdd pSub pMul pQuo pRem pAnd pOr pXor pAndNot pShl pShr pNeg pCompl pConv pLt pLe pEq pSlt pSle pSeq pCat pCatOk pSlen pSsub pSat pIadd pIsub pBnot pBeq pImin pImax pLlen pLsub pLapp pLset pLcopy pLenOk pBytes pRep hF Ca hC r hr => ?_
  cbv
  have lr : pLlen (M rowVs t.rows) = Int.ofNat n := (llenIs hF _).trans (by rw [← hM, List.length_map, ← hn]; rfl)
  refine callB hC (by have hh := c1; (try simp only [hM] at hh); exact hh) (fun h1 => ?_) (fun h1 => ?_) <;> try cbv
  · rw [lr]
    refine brkI (fun h => ?_) (fun h => ?_) <;> try cbv
    · exact retB hr (hq.trans (tabRight_long (by have h := ltT hF h; rw [← hn]; ((try simp only [Int.ofNat_eq_natCast] at *); omega))))
    have h60 : n ≤ 60 := by have h := ltF hF h; ((try simp only [Int.ofNat_eq_natCast] at *); omega)
    try rw [lr]
    refine loop_all (fun a st => st.n 18 (Int.ofNat a)) (tabAt t) n rfl (fun K' hK I i hi hp ih => ?_)
    cbv
    refine brkI (fun h0 => ?_) (fun h0 => ?_) <;> try cbv
    · have h0 := ltT hF h0
      have hs : i < t.rows.length := by rw [← hn]; ((try simp only [Int.ofNat_eq_natCast] at *); omega)
      have e1 : pAdd .i64 (Int.ofNat i) 1 = Int.ofNat (i + 1) := add1Is hF (by omega)
      obtain ⟨u, hu⟩ : ∃ u, u = t.rows[i] := ⟨_, rfl⟩
      have hum : u ∈ t.rows := hu ▸ List.getElem_mem hs
      have ku : t.rows.getD i [] = u := getD_of hs hu
      have get : ∀ {K : List Y → Prop}, K [.sl 3 (M Val.row u)] → ∃ x, LGet (M rowVs t.rows) (Int.ofNat i) x ∧ K x := fun k =>
        lgetM (l := t.rows) (fun u => [.sl 3 (M Val.row u)]) (fun u => by simp only [rowVs, hM]) (hM _ _).symm hs fun v hv => by
          rw [show v = u from hv.trans hu.symm]; exact k
      have bad : tabAt t i = false → q = false := fun h => hq.trans (tabRight_bad hs h)
      have rowsOk : ∀ j, j < i → rowOk t.sch (t.rows.getD j []) = true := fun j hj => by
        have := hp j hj
        rw [tabAt, Bool.and_eq_true, Bool.and_eq_true] at this
        exact this.1.1
      have at_ : tabAt t i = (rowOk t.sch u && (decide (i = 0) || decide (cmpLs (pk (t.rows.getD (i - 1) []) t.sch.key) (pk u t.sch.key) < 0)) && allTo (fun k => !clashB t.sch u (t.rows.getD k [])) i) := by rw [tabAt, ku]
      refine get ?_
      cbv
      refine callB hC (by have hh := row_ok u hum; (try simp only [hM] at hh); exact hh) (fun h2 => ?_) (fun h2 => ?_) <;> try cbv
      rotate_left
      · refine hK _ _ ?_
        cbv
        exact retB hr (bad (by rw [at_, h2]; rfl))
      have pu : Placed t.sch u := placed_of h1 h2
      have kl : ∀ v, (pk v t.sch.key).length ≤ maxLen := fun v => by rw [show (pk v t.sch.key).length = t.sch.key.length from pickTo_len ..]; exact Nat.le_trans (key_len hsb) (by rw [maxLen_is]; omega)
      refine cutG (G := ?G) (H := (decide (i = 0) || decide (cmpLs (pk (t.rows.getD (i - 1) []) t.sch.key) (pk u t.sch.key) < 0)) = true) (fun key => ?main) (fun hord => ?rest)
      case' main =>
        refine brkI (fun h3 => ?_) (fun h3 => ?_) <;> try cbv
        · have h3 : 0 < i := by have h3 := ltT hF h3; ((try simp only [Int.ofNat_eq_natCast] at *); omega)
          have e4 : pSub .i64 (Int.ofNat i) 1 = Int.ofNat (i - 1) := by
            have e : pSub .i64 (Int.ofNat i) 1 = Int.ofNat i - 1 := subIs hF (by ((try simp only [Int.ofNat_eq_natCast] at *); omega)) (by ((try simp only [Int.ofNat_eq_natCast] at *); omega))
            rw [e]; ((try simp only [Int.ofNat_eq_natCast] at *); omega)
          have hs3 : i - 1 < t.rows.length := by omega
          rw [e4]
          obtain ⟨w, hw⟩ : ∃ w, w = t.rows[i - 1] := ⟨_, rfl⟩
          have kw : t.rows.getD (i - 1) [] = w := getD_of hs3 hw
          have pw : Placed t.sch w := placed_of h1 (kw ▸ rowsOk (i - 1) (by omega))
          refine lgetM (l := t.rows) (fun u => [.sl 3 (M Val.row u)]) (fun u => by simp only [rowVs, hM]) (hM _ _).symm hs3 fun v hv => ?_
          rw [show v = w from hv.trans hw.symm]
          cbv
          have k1 := key_ok w pw
          have k2 := key_ok u pu
          have k3 := cmp_ok (pk w t.sch.key) (pk u t.sch.key) (kl w)
          rw [kw] at key
          rw [kw] at at_
          obtain ⟨A', hA'⟩ : ∃ x, x = pk w t.sch.key := ⟨_, rfl⟩
          obtain ⟨B', hB'⟩ : ∃ x, x = pk u t.sch.key := ⟨_, rfl⟩
          rw [← hA'] at k1 k3 key at_
          rw [← hB'] at k2 k3 key at_
          obtain ⟨cm, hcm⟩ : ∃ x, x = cmpLs A' B' := ⟨_, rfl⟩
          rw [← hcm] at k3 key at_
          refine callI hC (by have hh := k1; (try simp only [hM] at hh); exact hh) ?_
          cbv
          refine callI hC (by have hh := k2; (try simp only [hM] at hh); exact hh) ?_
          cbv
          refine callN hC (by have hh := k3; (try simp only [hM] at hh); exact hh) (fun m hm => ?_)
          cbv
          refine brkI (fun h4 => ?_) (fun h4 => ?_) <;> try cbv
          · have h4 := leT hF h4
            refine hK _ _ ?_
            cbv
            refine retB hr (bad ?_)
            rw [at_, decide_eq_false (p := i = 0) (by omega), decide_eq_false (p := cm < 0) (by omega), Bool.or_false, Bool.and_false, Bool.false_and]
          · have h4 := leF hF h4
            exact key (by rw [decide_eq_true (p := cm < 0) (by omega), Bool.or_true])
        · have h3 : i = 0 := by have h3 := ltF hF h3; ((try simp only [Int.ofNat_eq_natCast] at *); omega)
          exact key (by rw [decide_eq_true h3]; rfl)
      have hcl : ∀ v ∈ t.rows.take i, Placed t.sch v ∧ Rights v := fun v hv => by
        obtain ⟨j, hj, rfl⟩ := List.mem_iff_getElem.1 hv
        rw [List.length_take] at hj
        have := rowsOk j (by omega)
        rw [getD_at (by omega : j < t.rows.length)] at this
        rw [List.getElem_take]
        exact ⟨placed_of h1 this, rights_of this⟩
      have cc := clash_ok i u (Nat.le_of_lt hs) pu hcl
      have eqc : (!allTo (fun k => !(fun x => clashB t.sch x u) ((t.rows.take i).getD k [])) (t.rows.take i).length) = !allTo (fun k => !clashB t.sch u (t.rows.getD k [])) i := by
        have el : (t.rows.take i).length = i := by rw [List.length_take]; omega
        rw [el]
        congr 1
        refine allTo_congr fun k hk => ?_
        have : (t.rows.take i).getD k [] = t.rows.getD k [] := by
          rw [getD_at (by omega), getD_at (by omega), List.getElem_take]
        dsimp only
        rw [this, clashB_comm]
      rw [eqc] at cc
      obtain ⟨cl, hcl2⟩ : ∃ x, x = allTo (fun k => !clashB t.sch u (t.rows.getD k [])) i := ⟨_, rfl⟩
      rw [← hcl2] at cc at_
      rw [lr]
      refine brT (zeroLe hF i) ?_
      refine brT (mkLe hF (by ((try simp only [Int.ofNat_eq_natCast] at *); omega))) ?_
      try cbv
      have elsub : pLsub (M rowVs t.rows) 0 (pIsub (Int.ofNat i) 0) = M rowVs (t.rows.take i) := (lsubTake hF (hM rowVs t.rows).symm i).trans (hM _ _)
      rw [elsub]
      refine callB hC (by have hh := cc; (try simp only [hM] at hh); exact hh) (fun h6 => ?_) (fun h6 => ?_) <;> try cbv
      · refine hK _ _ ?_
        cbv
        refine retB hr (bad ?_)
        have h6 : cl = false := by simpa using h6
        rw [at_, h6, Bool.and_false]
      · conv => arg 1; cbv
        rw [e1]
        refine ih _ (by ((try simp only [Int.ofNat_eq_natCast] at *); omega)) ?_ rfl
        have h6 : cl = true := by simpa using h6
        rw [at_, h2, hord, h6]; rfl
    · have h0 := ltF hF h0
      have him : i = n := by ((try simp only [Int.ofNat_eq_natCast] at *); omega)
      refine hK _ _ ?_
      cbv
      refine retB hr (hq.trans ?_)
      rw [tabRight, h1, decide_eq_true (p := t.rows.length ≤ 60) (by omega), allTo_iff.2 fun j hj => hp j (by rw [← hn] at hj; omega)]; rfl
  · exact retB hr (hq.trans (tabRight_sch h1))
end Go.Proofs.YtemfaiabbonpnaaGreatDoor
