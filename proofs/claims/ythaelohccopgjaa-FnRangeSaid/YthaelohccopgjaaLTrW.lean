/- Functions of the program, each with what it returns, run by the evaluator; the conditions stand in the theorems. -/
import Derived.Test.YthaelohccopgjaaLTrF
import Derived.Test.YthaelohccopgjaaV6
namespace Go.Proofs.Ythaelohccopgjaa
open Go Go.Proofs.YthaelohccopgjaaW Go.Proofs
set_option linter.unusedVariables false
set_option linter.unusedSimpArgs false
set_option maxRecDepth 100000
set_option maxHeartbeats 8000000
section
variable {F : Prims} (hF : prims = F)
include hF
theorem lenDD : ∀ xs : List (List Y), F.llen xs = (xs.length : Int) := by subst hF; exact fun _ => rfl
theorem lsubDD : ∀ xs a b, F.lsub xs a b = (xs.drop a.toNat).take b.toNat := by subst hF; exact fun _ _ _ => rfl
theorem isubDD : ∀ a b, F.isub a b = a - b := by subst hF; exact fun _ _ => rfl
theorem iaddDD : ∀ a b, F.iadd a b = a + b := by subst hF; exact fun _ _ => rfl
theorem lenOkDD : ∀ a, F.lenOk a = decide (a ≤ 4294967296) := by subst hF; exact fun _ => rfl
theorem lappDD : ∀ a b, F.lapp a b = a ++ b := by subst hF; exact fun _ _ => rfl
theorem lsetDD : ∀ l i x, F.lset l i x = l.set i.toNat x := by subst hF; exact fun _ _ _ => rfl
end
theorem t_of {b : Bool} {P : Prop} [Decidable P] (e : b = decide P) (h : P) : b = true := e.trans (decide_eq_true h)
theorem sTexts_of (xs : List (List Y)) (k : Nat) (t : ByteArray) (hk : k ≤ xs.length) (hl : xs.length ≤ 1048576) : CallOK Try.prog 73 [.c (.y (.sl 1 xs)), aN (Int.ofNat k), aS t] ⟨.c (.own 1 (xs.take k ++ [yS t] :: xs.drop k)), []⟩ := by
  obtain ⟨rs, hrs⟩ : ∃ rs, rs = xs.take k ++ [yS t] :: xs.drop k := ⟨_, rfl⟩
  rw [← hrs]
  obtain ⟨M, hM⟩ := mapEx
  try simp only [hM]
  refine go Try.func73 rfl rfl rfl rfl fun pAdd pSub pMul pQuo pRem pAnd pOr pXor pAndNot pShl pShr pNeg pCompl pConv pLt pLe pEq pSlt pSle pSeq pCat pCatOk pSlen pSsub pSat pIadd pIsub pBnot pBeq pImin pImax pLlen pLsub pLapp pLset pLcopy pLenOk pBytes pRep hF Ca hC r hr => ?_
  cbv
  have zD : ∀ a b, pLe a b = decide (a ≤ b) := leD hF
  have gD : ∀ a b, pLt a b = decide (a < b) := ltD hF
  have nD : ∀ xs : List (List Y), pLlen xs = Int.ofNat xs.length := fun xs => llenIs hF xs
  have uD : ∀ xs a b, pLsub xs a b = (xs.drop a.toNat).take b.toNat := lsubDD hF
  have iD : ∀ a b, pIsub a b = a - b := isubDD hF
  have aD : ∀ a b, pIadd a b = a + b := iaddDD hF
  have kD : ∀ a, pLenOk a = decide (a ≤ 4294967296) := lenOkDD hF
  have pD : ∀ a b, pLapp a b = a ++ b := lappDD hF
  have tD : ∀ l i x, pLset l i x = l.set i.toNat x := lsetDD hF
  obtain ⟨ts, has⟩ : ∃ us, us = xs.take k := ⟨_, rfl⟩
  obtain ⟨bs, hbs⟩ : ∃ us, us = xs.drop k := ⟨_, rfl⟩
  have la : ts.length = k := by rw [has]; simp; omega
  have lb : bs.length ≤ 1048576 := by rw [hbs]; simp; omega
  have e0 : pLsub xs 0 (pIsub (Int.ofNat k) 0) = ts := by rw [uD, iD, has]; simp
  have e1 : pLsub xs (Int.ofNat k) (pIsub (pLlen xs) (Int.ofNat k)) = bs := by
    rw [uD, iD, nD, hbs, List.take_of_length_le (by simp)]; simp
  rw [e0, e1]
  have q1 : pLe 0 (Int.ofNat k) = true := zeroLe hF k
  have q2 : pLe (Int.ofNat k) (pLlen xs) = true := mkLe hF (by rw [nD]; ((try simp only [Int.ofNat_eq_natCast] at *); omega))
  have q3 : pLenOk (pLlen ts) = true := lenOkLen hF (by omega)
  have q4 : pLenOk (pIadd (pLlen ts) (pLlen [[Y.sc (Value.string t)]])) = true := lenOkIs hF (by rw [aD, nD, nD, la]; simp; omega)
  have q5 : pLenOk (pIadd (pLlen (pLapp ts [[Y.sc (Value.string t)]])) (pLlen bs)) = true := lenOkIs hF (by rw [aD, nD, nD, pD]; simp [la]; omega)
  refine brT q1 (brT q2 (brT q3 (brT q4 (brT q1 (brT q2 (brT q5 ?_))))))
  rw [hr, hrs, pD, pD, has, hbs]
  simp
theorem sWithout_of (xs : List (List Y)) (k : Nat) (hk : k < xs.length) (hl : xs.length ≤ 1048576) : CallOK Try.prog 75 [.c (.y (.sl 1 xs)), aN (Int.ofNat k)] ⟨.c (.own 1 (xs.take k ++ xs.drop (k + 1))), []⟩ := by
  obtain ⟨rs, hrs⟩ : ∃ rs, rs = xs.take k ++ xs.drop (k + 1) := ⟨_, rfl⟩
  rw [← hrs]
  obtain ⟨M, hM⟩ := mapEx
  try simp only [hM]
  refine go Try.func75 rfl rfl rfl rfl fun pAdd pSub pMul pQuo pRem pAnd pOr pXor pAndNot pShl pShr pNeg pCompl pConv pLt pLe pEq pSlt pSle pSeq pCat pCatOk pSlen pSsub pSat pIadd pIsub pBnot pBeq pImin pImax pLlen pLsub pLapp pLset pLcopy pLenOk pBytes pRep hF Ca hC r hr => ?_
  cbv
  have zD : ∀ a b, pLe a b = decide (a ≤ b) := leD hF
  have gD : ∀ a b, pLt a b = decide (a < b) := ltD hF
  have nD : ∀ xs : List (List Y), pLlen xs = Int.ofNat xs.length := fun xs => llenIs hF xs
  have uD : ∀ xs a b, pLsub xs a b = (xs.drop a.toNat).take b.toNat := lsubDD hF
  have iD : ∀ a b, pIsub a b = a - b := isubDD hF
  have aD : ∀ a b, pIadd a b = a + b := iaddDD hF
  have kD : ∀ a, pLenOk a = decide (a ≤ 4294967296) := lenOkDD hF
  have pD : ∀ a b, pLapp a b = a ++ b := lappDD hF
  have tD : ∀ l i x, pLset l i x = l.set i.toNat x := lsetDD hF
  have e0 : (xs.drop (0 : Int).toNat).take ((k : Int) - 0).toNat = xs.take k := by simp
  have ea : pAdd .i64 (k : Int) 1 = ((k + 1 : Nat) : Int) := add1Is hF (by omega)
  have e1 : (xs.drop ((k + 1 : Nat) : Int).toNat).take ((xs.length : Int) - ((k + 1 : Nat) : Int)).toNat = xs.drop (k + 1) := by
    rw [List.take_of_length_le (by simp; omega)]; simp
  simp only [zD, nD, uD, iD, aD, kD, pD, Int.ofNat_eq_natCast, ea, e0, e1, List.length_append, List.length_take, List.length_drop, List.length_cons, List.length_nil]
  iterate 4 refine brT (decide_eq_true (by omega)) ?_
  rw [hr, hrs]
theorem insL_map {α : Type} (f : α → List Y) (l : List α) (k : Nat) (x : α) : (insL l k x).map f = (l.map f).take k ++ f x :: (l.map f).drop k := by
  simp [insL, List.map_take, List.map_drop]
theorem outL_map {α : Type} (f : α → List Y) (l : List α) (k : Nat) : (outL l k).map f = (l.map f).take k ++ (l.map f).drop (k + 1) := by
  simp [outL, List.map_take, List.map_drop]
theorem sTexts_ok (l : List ByteArray) (k : Nat) (t : ByteArray) (hk : k ≤ l.length) (hl : l.length ≤ 1048576) : CallOK Try.prog 73 [.c (.y (.sl 1 (l.map rowS))), aN (Int.ofNat k), aS t] ⟨.c (.own 1 ((insL l k t).map rowS)), []⟩ := by
  have h := sTexts_of (l.map rowS) k t (by simpa using hk) (by simpa using hl)
  rw [insL_map]; exact h
theorem sWithout_ok (l : List ByteArray) (k : Nat) (hk : k < l.length) (hl : l.length ≤ 1048576) : CallOK Try.prog 75 [.c (.y (.sl 1 (l.map rowS))), aN (Int.ofNat k)] ⟨.c (.own 1 ((outL l k).map rowS)), []⟩ := by
  have h := sWithout_of (l.map rowS) k (by simpa using hk) (by simpa using hl)
  rw [outL_map]; exact h
/-- A part of a node. -/
theorem sPart_ok (t : Tr) (a b : Nat) (b1 : t.keys.length ≤ 1000000) (h1 : a ≤ b) (h2 : b ≤ t.keys.length) (h3 : t.vals.length = t.keys.length) (h4 : t.kids = [] ∨ t.kids.length = t.keys.length + 1) :
    CallOK Try.prog 74 [.agg [.y (.sl 1 (t.keys.map rowS)), .y (.sl 1 (t.vals.map rowS)), .y (.sl 3 (t.kids.map Tr.row))], aN (Int.ofNat a), aN (Int.ofNat b)] ⟨.agg ((partT t a b).row.map AC.y), []⟩ := by
  refine CallQ.plain (Q := fun r => r.lo = ⟨.agg ((partT t a b).row.map AC.y), []⟩) ?_ fun _ h => h
  obtain ⟨rs, hrs⟩ : ∃ rs, rs = (partT t a b).row.map AC.y := ⟨_, rfl⟩
  rw [← hrs]
  rw [Tr.row_eq] at hrs
  obtain ⟨xs, hx⟩ : ∃ xs, xs = t.keys.map rowS := ⟨_, rfl⟩
  obtain ⟨ys, hy⟩ : ∃ xs, xs = t.vals.map rowS := ⟨_, rfl⟩
  obtain ⟨zs, hz⟩ : ∃ xs, xs = t.kids.map Tr.row := ⟨_, rfl⟩
  rw [← hx, ← hy, ← hz]
  have hxl : xs.length = t.keys.length := by rw [hx, List.length_map]
  have hyl : ys.length = t.vals.length := by rw [hy, List.length_map]
  have hzl : zs.length = t.kids.length := by rw [hz, List.length_map]
  obtain ⟨M, hM⟩ := mapEx
  try simp only [hM]
  refine goQ Try.func74 rfl rfl rfl rfl fun pAdd pSub pMul pQuo pRem pAnd pOr pXor pAndNot pShl pShr pNeg pCompl pConv pLt pLe pEq pSlt pSle pSeq pCat pCatOk pSlen pSsub pSat pIadd pIsub pBnot pBeq pImin pImax pLlen pLsub pLapp pLset pLcopy pLenOk pBytes pRep hF Ca hC Q1 hQ => ?_
  cbv
  have zD : ∀ a b, pLe a b = decide (a ≤ b) := leD hF
  have gD : ∀ a b, pLt a b = decide (a < b) := ltD hF
  have nD : ∀ xs : List (List Y), pLlen xs = Int.ofNat xs.length := fun xs => llenIs hF xs
  have uD : ∀ xs a b, pLsub xs a b = (xs.drop a.toNat).take b.toNat := lsubDD hF
  have iD : ∀ a b, pIsub a b = a - b := isubDD hF
  have aD : ∀ a b, pIadd a b = a + b := iaddDD hF
  have kD : ∀ a, pLenOk a = decide (a ≤ 4294967296) := lenOkDD hF
  have pD : ∀ a b, pLapp a b = a ++ b := lappDD hF
  have tD : ∀ l i x, pLset l i x = l.set i.toNat x := lsetDD hF
  have qa : pLe 0 (Int.ofNat a) = true := zeroLe hF a
  have qb : pLe (Int.ofNat a) (Int.ofNat b) = true := mkLe hF (by ((try simp only [Int.ofNat_eq_natCast] at *); omega))
  have qx : pLe (Int.ofNat b) (pLlen xs) = true := mkLe hF (by rw [nD, hxl]; ((try simp only [Int.ofNat_eq_natCast] at *); omega))
  have qy : pLe (Int.ofNat b) (pLlen ys) = true := mkLe hF (by rw [nD, hyl]; ((try simp only [Int.ofNat_eq_natCast] at *); omega))
  have sub : ∀ us : List (List Y), pLsub us (Int.ofNat a) (pIsub (Int.ofNat b) (Int.ofNat a)) = (us.drop a).take (b - a) := fun us => by
    rw [uD, iD]
    have : (Int.ofNat b - Int.ofNat a).toNat = b - a := by ((try simp only [Int.ofNat_eq_natCast] at *); omega)
    rw [this]; rfl
  obtain ⟨ps, hps⟩ : ∃ ps, ps = (xs.drop a).take (b - a) := ⟨_, rfl⟩
  obtain ⟨qs, hqs⟩ : ∃ ps, ps = (ys.drop a).take (b - a) := ⟨_, rfl⟩
  rw [sub xs, sub ys, ← hps, ← hqs]
  have kx : pLenOk (pLlen ps) = true := lenOkLen hF (by rw [hps]; simp; omega)
  have ky : pLenOk (pLlen qs) = true := lenOkLen hF (by rw [hqs]; simp; omega)
  refine brT qa (brT qb (brT qx (brT kx (brT qa (brT qb (brT qy (brT ky ?_)))))))
  have e : pAdd .i64 (Int.ofNat b) 1 = Int.ofNat (b + 1) := add1Is hF (by omega)
  refine brkI (fun h => ?_) (fun h => ?_) <;> try cbv
  · have h := ltT hF h
    rw [nD, hzl] at h
    have h4' := h4.resolve_left (fun e => by rw [e] at h; simp at h)
    rw [e]
    have qc : pLe (Int.ofNat a) (Int.ofNat (b + 1)) = true := mkLe hF (by ((try simp only [Int.ofNat_eq_natCast] at *); omega))
    have hl : zs.length = t.keys.length + 1 := hzl.trans h4'
    have qz : pLe (Int.ofNat (b + 1)) (pLlen zs) = true := mkLe hF (by rw [nD]; show ((b + 1 : Nat) : Int) ≤ (zs.length : Int); omega)
    have sub' : pLsub zs (Int.ofNat a) (pIsub (Int.ofNat (b + 1)) (Int.ofNat a)) = (zs.drop a).take (b + 1 - a) := by
      rw [uD, iD]
      have : (Int.ofNat (b + 1) - Int.ofNat a).toNat = b + 1 - a := by ((try simp only [Int.ofNat_eq_natCast] at *); omega)
      rw [this]; rfl
    obtain ⟨os, hos⟩ : ∃ ps, ps = (zs.drop a).take (b + 1 - a) := ⟨_, rfl⟩
    rw [sub', ← hos]
    have kz : pLenOk (pLlen os) = true := lenOkLen hF (by rw [hos]; simp; omega)
    refine brT qa (brT qc (brT qz (brT kz ?_)))
    try cbv
    refine hQ _ ?_
    have hk0 : t.kids ≠ [] := fun e => by rw [e] at h4'; simp at h4'
    rw [hrs, hps, hqs, hos, hx, hy, hz]
    simp only [partT, if_neg hk0]
    simp [resOf, Res.lo, RV.lo, AC.lo, List.map_take, List.map_drop]
  · have h := ltF hF h
    rw [nD] at h
    have hz0 : zs.length = 0 := by clear e; ((try simp only [Int.ofNat_eq_natCast] at *); omega)
    have hk0 : t.kids = [] := List.eq_nil_of_length_eq_zero (hzl.symm.trans hz0)
    refine hQ _ ?_
    rw [hrs, hps, hqs, hx, hy]
    simp only [partT, if_pos hk0]
    simp [resOf, Res.lo, RV.lo, AC.lo, List.map_take, List.map_drop]
end Go.Proofs.Ythaelohccopgjaa
