/- Functions of the program, each with what it returns, run by the evaluator; the conditions stand in the theorems. -/
import Derived.Test.YtemfaiabbonpnaaGreatDoorLRow
import Derived.Test.YtemfaiabbonpnaaGreatDoorLPick
import Derived.Test.YtemfaiabbonpnaaGreatDoorLCmp
import Derived.Test.YtemfaiabbonpnaaGreatDoorLSch2
namespace Go.Proofs.YtemfaiabbonpnaaGreatDoor
open Go Go.Proofs.YtemfaiabbonpnaaGreatDoorW Go.Proofs
set_option linter.unusedVariables false
set_option linter.unusedSimpArgs false
set_option maxRecDepth 100000
set_option maxHeartbeats 8000000
/-! rows that clash -/
def pk (row : List Val) (cols : List Int) : List Val := pickTo row cols cols.length
def hasNull (l : List Val) : Bool := !allTo (fun j => !decide ((l.getD j default).k = 0)) l.length
def clashAt (s : Sch) (a b : List Val) (i : Nat) : Bool := (s.idx.getD i default).uniq && !hasNull (pk a (s.idx.getD i default).cols) && decide (cmpLs (pk a (s.idx.getD i default).cols) (pk b (s.idx.getD i default).cols) = 0)
def clashB (s : Sch) (a b : List Val) : Bool := !allTo (fun i => !clashAt s a b i) s.idx.length
theorem cmpI_zero {a b : Int} : cmpI a b = 0 ↔ a = b := by
  rw [cmpI]; split
  · omega
  · split <;> omega
theorem bl_irrefl : ∀ l : List UInt8, Op.bytesLess l l = false
  | [] => rfl
  | x :: l => by rw [Op.bytesLess]; simp [bl_irrefl l, UInt8.lt_irrefl]
theorem cmpS_eq {a b : ByteArray} : cmpS a b = 0 ↔ a = b := by
  rw [cmpS_zero]
  constructor
  · exact fun h => h.1
  · intro h; subst h; exact ⟨rfl, by rw [bl_irrefl]; decide⟩
theorem cmp_zero {a b : Val} : a.cmp b = 0 ↔ a = b := by
  obtain ⟨k, n, s⟩ := a
  obtain ⟨k', n', s'⟩ := b
  simp only [Val.cmp, cmpV, Val.mk.injEq]
  constructor
  · intro h
    split at h
    · omega
    split at h
    · omega
    split at h
    · omega
    split at h
    · omega
    exact ⟨by omega, by omega, cmpS_eq.1 h⟩
  · rintro ⟨rfl, rfl, rfl⟩
    simp [cmpS_eq.2]
theorem cmpLs_zero : ∀ {a b : List Val}, cmpLs a b = 0 ↔ a = b
  | [], [] => by simp [cmpLs]
  | [], _ :: _ => by simp [cmpLs]
  | _ :: _, [] => by simp [cmpLs]
  | x :: a, y :: b => by
    have ih := cmpLs_zero (a := a) (b := b)
    have h := cmp_zero (a := x) (b := y)
    simp only [cmpLs, List.cons.injEq]
    split
    · rename_i hc
      rw [ih]
      exact ⟨fun e => ⟨h.1 hc, e⟩, fun e => e.2⟩
    · rename_i hc
      constructor
      · intro e; exact absurd e hc
      · intro e; exact absurd (h.2 e.1) hc
theorem clashAt_comm (s : Sch) (a b : List Val) (i : Nat) : clashAt s a b i = clashAt s b a i := by
  rw [clashAt, clashAt]
  by_cases h : pk a (s.idx.getD i default).cols = pk b (s.idx.getD i default).cols
  · rw [h]
  · rw [decide_eq_false (fun e => h (cmpLs_zero.1 e)), decide_eq_false (fun e => h (cmpLs_zero.1 e).symm), Bool.and_false, Bool.and_false]
theorem clashB_comm (s : Sch) (a b : List Val) : clashB s a b = clashB s b a := by
  rw [clashB, clashB]
  congr 1
  exact allTo_congr fun i _ => by rw [clashAt_comm]
def zeroV : Val := ⟨0, 0, ⟨⟨[]⟩⟩⟩
/-- Equal lists, told element by element. -/
theorem equalVal_ok (a b : List Val) (ha : a.length ≤ 1048576) (hb : b.length ≤ 1048576) : CallOK Tryz.prog 130 [.c (.y (.sl 3 (a.map Val.row))), .c (.y (.sl 3 (b.map Val.row)))] (B (decide (cmpLs a b = 0))) := by
  obtain ⟨q, hq⟩ : ∃ q, q = decide (cmpLs a b = 0) := ⟨_, rfl⟩
  rw [← hq]
  have hq1 : a = b → q = true := fun h => hq.trans (decide_eq_true (cmpLs_zero.2 h))
  have hq0 : a ≠ b → q = false := fun h => hq.trans (decide_eq_false fun e => h (cmpLs_zero.1 e))
  obtain ⟨n, hn⟩ : ∃ n, n = a.length := ⟨_, rfl⟩
  obtain ⟨m, hm⟩ : ∃ n, n = b.length := ⟨_, rfl⟩
  rw [← hn] at ha
  rw [← hm] at hb
  obtain ⟨M, hM⟩ := mapEx
  try simp only [hM]
  refine go Tryz.func130 rfl rfl rfl rfl fun pAdd pSub pMul pQuo pRem pAnd pOr pXor pAndNot pShl pShr pNeg pCompl pConv pLt pLe pEq pSlt pSle pSeq pCat pCatOk pSlen pSsub pSat pIadd pIsub pBnot pBeq pImin pImax pLlen pLsub pLapp pLset pLcopy pLenOk pBytes pRep hF Ca hC r hr => ?_
  cbv
  have la : pLlen (M Val.row a) = Int.ofNat n := (llenIs hF _).trans (by rw [← hM, List.length_map, ← hn]; rfl)
  have lb : pLlen (M Val.row b) = Int.ofNat m := (llenIs hF _).trans (by rw [← hM, List.length_map, ← hm]; rfl)
  rw [la, lb]
  refine brkI (fun h => ?_) (fun h => ?_) <;> try cbv
  · have h := eqT hF h
    have hmn : m = n := by ((try simp only [Int.ofNat_eq_natCast] at *); omega)
    subst hmn
    try rw [la]
    refine loop_all (fun a st => st.n 13 (Int.ofNat a)) (fun i => decide ((a.getD i default).cmp (b.getD i default) = 0)) m rfl (fun K' hK I i hi hp ih => ?_)
    cbv
    refine brkI (fun h0 => ?_) (fun h0 => ?_) <;> try cbv
    · have h0 := ltT hF h0
      have hs : i < a.length := by rw [← hn]; ((try simp only [Int.ofNat_eq_natCast] at *); omega)
      have hs2 : i < b.length := by rw [← hm]; ((try simp only [Int.ofNat_eq_natCast] at *); omega)
      have e1 : pAdd .i64 (Int.ofNat i) 1 = Int.ofNat (i + 1) := add1Is hF (by omega)
      refine lgetM (l := a) (fun u => [yN u.k, yN u.n, yS u.s]) (fun u => by simp only [Val.row, hM]) (hM _ _).symm hs fun u hu => ?_
      cbv
      refine lgetM (l := b) (fun u => [yN u.k, yN u.n, yS u.s]) (fun u => by simp only [Val.row, hM]) (hM _ _).symm hs2 fun v hv => ?_
      cbv
      have ku : a.getD i default = u := getD_of hs hu
      have kv : b.getD i default = v := getD_of hs2 hv
      have ne : u ≠ v → q = false := fun hne => hq0 fun e => hne (by rw [← ku, ← kv, e])
      repeat' (refine brkI (fun h1 => ?_) (fun h1 => ?_) <;> try cbv)
      all_goals first
        | (refine hK _ _ ?_
           cbv
           refine retB hr (ne fun e => ?_)
           subst e
           first
             | exact eqF hF ‹pEq _ _ = false› rfl
             | exact seqF hF ‹pSeq _ _ = false› rfl)
        | (conv => arg 1; cbv
           rw [e1]
           refine ih _ (by ((try simp only [Int.ofNat_eq_natCast] at *); omega)) (decide_eq_true (cmp_zero.2 ?_)) rfl
           rw [ku, kv]
           have t1 := eqT hF ‹pEq u.k v.k = true›
           have t2 := eqT hF ‹pEq u.n v.n = true›
           have t3 := seqT hF ‹pSeq u.s v.s = true›
           obtain ⟨k, n, s⟩ := u
           obtain ⟨k', n', s'⟩ := v
           dsimp only at t1 t2 t3
           rw [t1, t2, t3])
    · have h0 := ltF hF h0
      have him : i = m := by ((try simp only [Int.ofNat_eq_natCast] at *); omega)
      refine hK _ _ ?_
      cbv
      refine retB hr (hq1 (List.ext_getElem (by omega) fun j hj1 hj2 => ?_))
      have := of_decide_eq_true (hp j (by omega))
      rw [getD_at hj1, getD_at hj2] at this
      exact cmp_zero.1 this
  · have h := eqF hF h
    exact retB hr (hq0 fun e => h (by rw [e] at hn; ((try simp only [Int.ofNat_eq_natCast] at *); omega)))
/-- The first place of a value. -/
theorem indexVal_ok (l : List Val) (z : Val) (hl : l.length ≤ 1048576) : CallOK Tryz.prog 140 [.c (.y (.sl 3 (l.map Val.row))), .agg [.y (yN z.k), .y (yN z.n), .y (yS z.s)]] (N (firstTo (fun i => decide ((l.getD i default).cmp z = 0)) l.length)) := by
  obtain ⟨q, hq⟩ : ∃ q, q = firstTo (fun i => decide ((l.getD i default).cmp z = 0)) l.length := ⟨_, rfl⟩
  rw [← hq]
  obtain ⟨n, hn⟩ : ∃ n, n = l.length := ⟨_, rfl⟩
  rw [← hn] at hl hq
  obtain ⟨M, hM⟩ := mapEx
  try simp only [hM]
  refine go Tryz.func140 rfl rfl rfl rfl fun pAdd pSub pMul pQuo pRem pAnd pOr pXor pAndNot pShl pShr pNeg pCompl pConv pLt pLe pEq pSlt pSle pSeq pCat pCatOk pSlen pSsub pSat pIadd pIsub pBnot pBeq pImin pImax pLlen pLsub pLapp pLset pLcopy pLenOk pBytes pRep hF Ca hC r hr => ?_
  cbv
  have la : pLlen (M Val.row l) = Int.ofNat n := (llenIs hF _).trans (by rw [← hM, List.length_map, ← hn]; rfl)
  rw [la]
  refine loop_all (fun a st => st.n 8 (Int.ofNat a)) (fun i => !decide ((l.getD i default).cmp z = 0)) n rfl (fun K' hK I i hi hp ih => ?_)
  cbv
  refine brkI (fun h0 => ?_) (fun h0 => ?_) <;> try cbv
  · have h0 := ltT hF h0
    have hs : i < l.length := by rw [← hn]; ((try simp only [Int.ofNat_eq_natCast] at *); omega)
    have e1 : pAdd .i64 (Int.ofNat i) 1 = Int.ofNat (i + 1) := add1Is hF (by omega)
    refine lgetM (l := l) (fun u => [yN u.k, yN u.n, yS u.s]) (fun u => by simp only [Val.row, hM]) (hM _ _).symm hs fun u hu => ?_
    cbv
    have ku : l.getD i default = u := getD_of hs hu
    repeat' (refine brkI (fun h1 => ?_) (fun h1 => ?_) <;> try cbv)
    all_goals first
      | (conv => arg 1; cbv
         rw [e1]
         refine ih _ (by ((try simp only [Int.ofNat_eq_natCast] at *); omega)) ?_ rfl
         rw [ku, Bool.not_eq_true']
         refine decide_eq_false fun e => ?_
         have e := cmp_zero.1 e
         subst e
         first
           | exact eqF hF ‹pEq _ _ = false› rfl
           | exact seqF hF ‹pSeq _ _ = false› rfl)
      | (refine hK _ _ ?_
         cbv
         refine retN hr (hq.trans (firstTo_at (by ((try simp only [Int.ofNat_eq_natCast] at *); omega)) ?_ fun j hj => ?_))
         · rw [ku]
           refine decide_eq_true (cmp_zero.2 ?_)
           have t1 := eqT hF ‹pEq z.k u.k = true›
           have t2 := eqT hF ‹pEq z.n u.n = true›
           have t3 := seqT hF ‹pSeq z.s u.s = true›
           obtain ⟨k, n, s⟩ := u
           obtain ⟨k', n', s'⟩ := z
           dsimp only at t1 t2 t3
           rw [t1, t2, t3]
         · exact (Bool.not_eq_true' _).mp (hp j hj))
  · have h0 := ltF hF h0
    have him : i = n := by ((try simp only [Int.ofNat_eq_natCast] at *); omega)
    subst him
    refine hK _ _ ?_
    cbv
    refine retN hr (hq.trans (firstTo_none fun j hj => ?_))
    exact (Bool.not_eq_true' _).mp (hp j hj)
theorem containsVal_ok (l : List Val) (z : Val) (hl : l.length ≤ 1048576) : CallOK Tryz.prog 129 [.c (.y (.sl 3 (l.map Val.row))), .agg [.y (yN z.k), .y (yN z.n), .y (yS z.s)]] (B (!allTo (fun i => !decide ((l.getD i default).cmp z = 0)) l.length)) := by
  have hc := indexVal_ok l z hl
  have hh := hasTo_is (fun i => decide ((l.getD i default).cmp z = 0)) l.length
  rw [← hh]
  obtain ⟨q, hq⟩ : ∃ q, q = firstTo (fun i => decide ((l.getD i default).cmp z = 0)) l.length := ⟨_, rfl⟩
  rw [← hq] at hc ⊢
  clear hq hh
  obtain ⟨M, hM⟩ := mapEx
  try simp only [hM]
  refine go Tryz.func129 rfl rfl rfl rfl fun pAdd pSub pMul pQuo pRem pAnd pOr pXor pAndNot pShl pShr pNeg pCompl pConv pLt pLe pEq pSlt pSle pSeq pCat pCatOk pSlen pSsub pSat pIadd pIsub pBnot pBeq pImin pImax pLlen pLsub pLapp pLset pLcopy pLenOk pBytes pRep hF Ca hC r hr => ?_
  cbv
  refine callN hC (by have hh := hc; (try simp only [hM] at hh); exact hh) (fun m hm => ?_)
  cbv
  refine brkI (fun h1 => ?_) (fun h1 => ?_) <;> try cbv
  all_goals exact retR hr (by rw [← hm, ← leD hF 0 m]; exact h1.symm)
end Go.Proofs.YtemfaiabbonpnaaGreatDoor
