/- Functions of the program, each with what it returns, run by the evaluator; the conditions stand in the theorems. -/
import Derived.Test.YtemfaiabbonpnaaGreatDoorLTab4
namespace Go.Proofs.YtemfaiabbonpnaaGreatDoor
open Go Go.Proofs.YtemfaiabbonpnaaGreatDoorW Go.Proofs
set_option linter.unusedVariables false
set_option linter.unusedSimpArgs false
set_option maxRecDepth 100000
set_option maxHeartbeats 8000000
def sltB (a b : ByteArray) : Bool := decide (cmpS a b = -1)
theorem cmpS_cases (a b : ByteArray) : (cmpS a b = -1 ∧ a ≠ b) ∨ (a = b ∧ cmpS a b = 0) ∨ (cmpS a b = 1 ∧ a ≠ b) := by
  have h := cmpS_is a b
  by_cases e : a = b
  · subst e; exact .inr (.inl ⟨rfl, cmpS_eq.2 rfl⟩)
  · rw [if_neg e] at h
    split at h
    · exact .inl ⟨h, e⟩
    · exact .inr (.inr ⟨h, e⟩)
theorem bl_total : ∀ a b : List UInt8, Op.bytesLess a b = false → Op.bytesLess b a = false → a = b
  | [], [], _, _ => rfl
  | [], _ :: _, h, _ => by simp [Op.bytesLess] at h
  | _ :: _, [], _, h => by simp [Op.bytesLess] at h
  | x :: a, y :: b, h, h' => by
    by_cases e : x = y
    · subst e
      simp [Op.bytesLess, UInt8.lt_irrefl] at h h'
      rw [bl_total a b h h']
    · simp [Op.bytesLess, e, Ne.symm e] at h h'
      exact absurd (UInt8.le_antisymm h' h) e
theorem bl_asymm : ∀ a b : List UInt8, Op.bytesLess a b = true → Op.bytesLess b a = false
  | [], [], h => by simp [Op.bytesLess] at h
  | [], _ :: _, _ => by simp [Op.bytesLess]
  | _ :: _, [], h => by simp [Op.bytesLess] at h
  | x :: a, y :: b, h => by
    by_cases e : x = y
    · subst e
      simp [Op.bytesLess, UInt8.lt_irrefl] at h ⊢
      exact bl_asymm a b h
    · simp [Op.bytesLess, e, Ne.symm e] at h ⊢
      exact UInt8.le_of_lt h
/-- In order. -/
def ordS (a b : ByteArray) : Bool := Op.bytesLess a.toList b.toList
section
variable {F : Prims} (hF : prims = F)
include hF
theorem sltTd {a b : ByteArray} (h : F.slt a b = true) : ordS a b = true := by subst hF; exact h
theorem sltFd {a b : ByteArray} (h : F.slt a b = false) : ordS a b = false := by subst hF; exact h
theorem sleTd {a b : ByteArray} (h : F.sle a b = true) : ordS b a = false := by
  subst hF
  have h : (Op.bytesLess a.toList b.toList || a.toList == b.toList) = true := h
  rw [Bool.or_eq_true] at h
  rcases h with h | h
  · exact bl_asymm _ _ h
  · rw [ordS, eq_of_beq h, bl_irrefl]
theorem sleFd {a b : ByteArray} (h : F.sle a b = false) : ordS b a = true := by
  subst hF
  have h : (Op.bytesLess a.toList b.toList || a.toList == b.toList) = false := h
  rw [Bool.or_eq_false_iff] at h
  cases hb : ordS b a with
  | true => rfl
  | false => exact absurd (bl_total _ _ h.1 hb) (by simpa using h.2)
end
def dbAt (d : Dbs) (i : Nat) : Bool := tabRight (d.tabs.getD i default) && (decide (i = 0) || ordS (d.tabs.getD (i - 1) default).sch.name (d.tabs.getD i default).sch.name)
def dbRight (d : Dbs) : Bool := allTo (dbAt d) d.tabs.length && decide (d.tabs.length ≤ 8)
theorem dbRight_long {d : Dbs} (h : 8 < d.tabs.length) : dbRight d = false := by rw [dbRight, decide_eq_false (by omega), Bool.and_false]
theorem dbRight_bad {d : Dbs} {i : Nat} (h : i < d.tabs.length) (hp : dbAt d i = false) : dbRight d = false := by rw [dbRight, allTo_false h hp]; rfl
theorem sDbRight_ok (d : Dbs) (hb : Dbs.Bd 1048576 d) : CallOK Tryz.prog 32 [.agg [.y (.sl 5 (d.tabs.map Tbl.row))]] (B (dbRight d)) := by
  have tab_ok := fun (u : Tbl) (hu : u ∈ d.tabs) => sTableRight_ok u (hb.1.2 u hu)
  have hl := hb.1.1
  obtain ⟨q, hq⟩ : ∃ q, q = dbRight d := ⟨_, rfl⟩
  rw [← hq]
  obtain ⟨n, hn⟩ : ∃ n, n = d.tabs.length := ⟨_, rfl⟩
  rw [← hn] at hl
  obtain ⟨M, hM⟩ := mapEx
  try simp only [hM]
  refine go Tryz.func32 rfl rfl rfl rfl fun pAdd pSub pMul pQuo pRem pAnd pOr pXor pAndNot pShl pShr pNeg pCompl pConv pLt pLe pEq pSlt pSle pSeq pCat pCatOk pSlen pSsub pSat pIadd pIsub pBnot pBeq pImin pImax pLlen pLsub pLapp pLset pLcopy pLenOk pBytes pRep hF Ca hC r hr => ?_
  cbv
  have lr : pLlen (M Tbl.row d.tabs) = Int.ofNat n := (llenIs hF _).trans (by rw [← hM, List.length_map, ← hn]; rfl)
  rw [lr]
  refine brkI (fun h => ?_) (fun h => ?_) <;> try cbv
  · exact retB hr (hq.trans (dbRight_long (by have h := ltT hF h; rw [← hn]; ((try simp only [Int.ofNat_eq_natCast] at *); omega))))
  have h8 : n ≤ 8 := by have h := ltF hF h; ((try simp only [Int.ofNat_eq_natCast] at *); omega)
  refine loop_all (fun a st => st.n 3 (Int.ofNat a)) (dbAt d) n rfl (fun K' hK I i hi hp ih => ?_)
  cbv
  rw [lr]
  refine brkI (fun h0 => ?_) (fun h0 => ?_) <;> try cbv
  · have h0 := ltT hF h0
    have hs : i < d.tabs.length := by rw [← hn]; ((try simp only [Int.ofNat_eq_natCast] at *); omega)
    have e1 : pAdd .i64 (Int.ofNat i) 1 = Int.ofNat (i + 1) := add1Is hF (by omega)
    obtain ⟨u, hu⟩ : ∃ u, u = d.tabs[i] := ⟨_, rfl⟩
    have hum : u ∈ d.tabs := hu ▸ List.getElem_mem hs
    have ku : d.tabs.getD i default = u := getD_of hs hu
    have bad : dbAt d i = false → q = false := fun h => hq.trans (dbRight_bad hs h)
    have at_ : dbAt d i = (tabRight u && (decide (i = 0) || ordS (d.tabs.getD (i - 1) default).sch.name u.sch.name)) := by rw [dbAt, ku]
    have get : ∀ {K : List Y → Prop}, K [yS u.sch.name, .sl 3 (M Col.row u.sch.cols), .sl 1 (M rowI u.sch.key), .sl 2 (M Idx.row u.sch.idx), .sl 1 (M rowVs u.rows)] → ∃ x, LGet (M Tbl.row d.tabs) (Int.ofNat i) x ∧ K x := fun k =>
      lgetM (l := d.tabs) (fun u => [yS u.sch.name, .sl 3 (M Col.row u.sch.cols), .sl 1 (M rowI u.sch.key), .sl 2 (M Idx.row u.sch.idx), .sl 1 (M rowVs u.rows)]) (fun u => by simp only [Tbl.row, hM]) (hM _ _).symm hs fun v hv => by
        rw [show v = u from hv.trans hu.symm]; exact k
    refine get ?_
    cbv
    refine callB hC (by have hh := tab_ok u hum; (try simp only [hM] at hh); exact hh) (fun h2 => ?_) (fun h2 => ?_) <;> try cbv
    rotate_left
    · refine hK _ _ ?_
      cbv
      exact retB hr (bad (by rw [at_, h2]; rfl))
    refine brkI (fun h3 => ?_) (fun h3 => ?_) <;> try cbv
    · have h3 : 0 < i := by have h3 := ltT hF h3; ((try simp only [Int.ofNat_eq_natCast] at *); omega)
      have e4 : pSub .i64 (Int.ofNat i) 1 = Int.ofNat (i - 1) := by
        have e : pSub .i64 (Int.ofNat i) 1 = Int.ofNat i - 1 := subIs hF (by ((try simp only [Int.ofNat_eq_natCast] at *); omega)) (by ((try simp only [Int.ofNat_eq_natCast] at *); omega))
        rw [e]; ((try simp only [Int.ofNat_eq_natCast] at *); omega)
      have hs3 : i - 1 < d.tabs.length := by omega
      rw [e4]
      refine lgetM (l := d.tabs) (fun u => [yS u.sch.name, .sl 3 (M Col.row u.sch.cols), .sl 1 (M rowI u.sch.key), .sl 2 (M Idx.row u.sch.idx), .sl 1 (M rowVs u.rows)]) (fun u => by simp only [Tbl.row, hM]) (hM _ _).symm hs3 fun w hw => ?_
      have kw : d.tabs.getD (i - 1) default = w := getD_of hs3 hw
      cbv
      refine get ?_
      cbv
      rw [kw, decide_eq_false (p := i = 0) (by omega), Bool.false_or] at at_
      refine brkI (fun h4 => ?_) (fun h4 => ?_) <;> try cbv
      all_goals first
        | (refine hK _ _ ?_
           cbv
           exact retB hr (bad (by rw [at_, sltFd hF h4, Bool.and_false])))
        | (conv => arg 1; cbv
           rw [e1]
           exact ih _ (by ((try simp only [Int.ofNat_eq_natCast] at *); omega)) (by rw [at_, h2, sltTd hF h4]; rfl) rfl)
    · have h3 : i = 0 := by have h3 := ltF hF h3; ((try simp only [Int.ofNat_eq_natCast] at *); omega)
      conv => arg 1; cbv
      rw [e1]
      exact ih _ (by ((try simp only [Int.ofNat_eq_natCast] at *); omega)) (by rw [at_, h2, decide_eq_true h3]; rfl) rfl
  · have h0 := ltF hF h0
    have him : i = n := by ((try simp only [Int.ofNat_eq_natCast] at *); omega)
    refine hK _ _ ?_
    cbv
    refine retB hr (hq.trans ?_)
    rw [dbRight, allTo_iff.2 fun j hj => hp j (by rw [← hn] at hj; omega), decide_eq_true (by omega)]; rfl
theorem iDbRight_ok (d : Dbs) (hb : Dbs.Bd 1048576 d) : CallOK Tryz.prog 35 [.agg [.y (.sl 5 (d.tabs.map Tbl.row))]] (B (dbRight d)) := by
  have tab_ok := fun (u : Tbl) (hu : u ∈ d.tabs) => iTableRight_ok u (hb.1.2 u hu)
  have hl := hb.1.1
  obtain ⟨q, hq⟩ : ∃ q, q = dbRight d := ⟨_, rfl⟩
  rw [← hq]
  obtain ⟨n, hn⟩ : ∃ n, n = d.tabs.length := ⟨_, rfl⟩
  rw [← hn] at hl
  obtain ⟨M, hM⟩ := mapEx
  try simp only [hM]
  refine go Tryz.func35 rfl rfl rfl rfl fun pAdd pSub pMul pQuo pRem pAnd pOr pXor pAndNot pShl pShr pNeg pCompl pConv pLt pLe pEq pSlt pSle pSeq pCat pCatOk pSlen pSsub pSat pIadd pIsub pBnot pBeq pImin pImax pLlen pLsub pLapp pLset pLcopy pLenOk pBytes pRep hF Ca hC r hr => ?_
  cbv
  have lr : pLlen (M Tbl.row d.tabs) = Int.ofNat n := (llenIs hF _).trans (by rw [← hM, List.length_map, ← hn]; rfl)
  rw [lr]
  refine loop_all (fun a st => st.n 8 (Int.ofNat a)) (dbAt d) n rfl (fun K' hK I i hi hp ih => ?_)
  cbv
  refine brkI (fun h0 => ?_) (fun h0 => ?_) <;> try cbv
  · have h0 := ltT hF h0
    have hs : i < d.tabs.length := by rw [← hn]; ((try simp only [Int.ofNat_eq_natCast] at *); omega)
    have e1 : pAdd .i64 (Int.ofNat i) 1 = Int.ofNat (i + 1) := add1Is hF (by omega)
    obtain ⟨u, hu⟩ : ∃ u, u = d.tabs[i] := ⟨_, rfl⟩
    have hum : u ∈ d.tabs := hu ▸ List.getElem_mem hs
    have ku : d.tabs.getD i default = u := getD_of hs hu
    have bad : dbAt d i = false → q = false := fun h => hq.trans (dbRight_bad hs h)
    have at_ : dbAt d i = (tabRight u && (decide (i = 0) || ordS (d.tabs.getD (i - 1) default).sch.name u.sch.name)) := by rw [dbAt, ku]
    have get : ∀ {K : List Y → Prop}, K [yS u.sch.name, .sl 3 (M Col.row u.sch.cols), .sl 1 (M rowI u.sch.key), .sl 2 (M Idx.row u.sch.idx), .sl 1 (M rowVs u.rows)] → ∃ x, LGet (M Tbl.row d.tabs) (Int.ofNat i) x ∧ K x := fun k =>
      lgetM (l := d.tabs) (fun u => [yS u.sch.name, .sl 3 (M Col.row u.sch.cols), .sl 1 (M rowI u.sch.key), .sl 2 (M Idx.row u.sch.idx), .sl 1 (M rowVs u.rows)]) (fun u => by simp only [Tbl.row, hM]) (hM _ _).symm hs fun v hv => by
        rw [show v = u from hv.trans hu.symm]; exact k
    refine get ?_
    cbv
    refine callB hC (by have hh := tab_ok u hum; (try simp only [hM] at hh); exact hh) (fun h2 => ?_) (fun h2 => ?_) <;> try cbv
    rotate_left
    · refine hK _ _ ?_
      cbv
      exact retB hr (bad (by rw [at_, h2]; rfl))
    refine brkI (fun h3 => ?_) (fun h3 => ?_) <;> try cbv
    · have h3 : 0 < i := by have h3 := ltT hF h3; ((try simp only [Int.ofNat_eq_natCast] at *); omega)
      have e4 : pSub .i64 (Int.ofNat i) 1 = Int.ofNat (i - 1) := by
        have e : pSub .i64 (Int.ofNat i) 1 = Int.ofNat i - 1 := subIs hF (by ((try simp only [Int.ofNat_eq_natCast] at *); omega)) (by ((try simp only [Int.ofNat_eq_natCast] at *); omega))
        rw [e]; ((try simp only [Int.ofNat_eq_natCast] at *); omega)
      have hs3 : i - 1 < d.tabs.length := by omega
      rw [e4]
      refine lgetM (l := d.tabs) (fun u => [yS u.sch.name, .sl 3 (M Col.row u.sch.cols), .sl 1 (M rowI u.sch.key), .sl 2 (M Idx.row u.sch.idx), .sl 1 (M rowVs u.rows)]) (fun u => by simp only [Tbl.row, hM]) (hM _ _).symm hs3 fun w hw => ?_
      have kw : d.tabs.getD (i - 1) default = w := getD_of hs3 hw
      cbv
      rw [kw, decide_eq_false (p := i = 0) (by omega), Bool.false_or] at at_
      refine brkI (fun h4 => ?_) (fun h4 => ?_) <;> try cbv
      all_goals first
        | (refine hK _ _ ?_
           cbv
           exact retB hr (bad (by rw [at_, sleTd hF h4, Bool.and_false])))
        | (conv => arg 1; cbv
           rw [e1]
           exact ih _ (by ((try simp only [Int.ofNat_eq_natCast] at *); omega)) (by rw [at_, h2, sleFd hF h4]; rfl) rfl)
    · have h3 : i = 0 := by have h3 := ltF hF h3; ((try simp only [Int.ofNat_eq_natCast] at *); omega)
      conv => arg 1; cbv
      rw [e1]
      exact ih _ (by ((try simp only [Int.ofNat_eq_natCast] at *); omega)) (by rw [at_, h2, decide_eq_true h3]; rfl) rfl
  · have h0 := ltF hF h0
    have him : i = n := by ((try simp only [Int.ofNat_eq_natCast] at *); omega)
    refine hK _ _ ?_
    cbv
    try rw [lr]
    have ha : allTo (dbAt d) d.tabs.length = true := allTo_iff.2 fun j hj => hp j (by rw [← hn] at hj; omega)
    refine brkI (fun h5 => ?_) (fun h5 => ?_) <;> try cbv
    · have h5 := leT hF h5
      exact retB hr (hq.trans (by rw [dbRight, ha, decide_eq_true (by ((try simp only [Int.ofNat_eq_natCast] at *); omega))]; rfl))
    · have h5 := leF hF h5
      exact retB hr (hq.trans (by rw [dbRight, ha, decide_eq_false (by ((try simp only [Int.ofNat_eq_natCast] at *); omega))]; rfl))
end Go.Proofs.YtemfaiabbonpnaaGreatDoor
