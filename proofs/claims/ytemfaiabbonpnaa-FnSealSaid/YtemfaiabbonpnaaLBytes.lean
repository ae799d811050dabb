/- Functions of the program, each with what it returns, run by the evaluator; the conditions stand in the theorems. -/
import Derived.Test.YtemfaiabbonpnaaTab
namespace Go.Proofs.Ytemfaiabbonpnaa
open Go Go.Proofs.YtemfaiabbonpnaaW Go.Proofs
set_option linter.unusedVariables false
set_option linter.unusedSimpArgs false
set_option maxRecDepth 100000
set_option maxHeartbeats 8000000
theorem within_ok (n a b : Int) : CallOK Try.prog 29 [aN n, aN a, aN b] (B (decide (a ≤ n) && decide (n ≤ b))) := by
  obtain ⟨M, hM⟩ := mapEx
  try simp only [hM]
  refine go Try.func29 rfl rfl rfl rfl fun pAdd pSub pMul pQuo pRem pAnd pOr pXor pAndNot pShl pShr pNeg pCompl pConv pLt pLe pEq pSlt pSle pSeq pCat pCatOk pSlen pSsub pSat pIadd pIsub pBnot pBeq pImin pImax pLlen pLsub pLapp pLset pLcopy pLenOk pBytes pRep hF Ca hC r hr => ?_
  cbv
  repeat' (refine brkI (fun _ => ?_) (fun _ => ?_) <;> try cbv)
  all_goals (cases hF; subst hr; simp_all <;> omega)
def regBit (r : Int) : Int := if prims.eq (prims.and .u32 r 1) 1 then prims.xor .u32 (prims.shr .u32 r 1) 3988292384 else prims.shr .u32 r 1
def regBits (r : Int) : Nat → Int
  | 0 => r
  | k + 1 => regBit (regBits r k)
def regByte (r c : Int) : Int := regBits (prims.xor .u32 r (prims.conv .u32 c)) 8
def reg (r : Int) (s : ByteArray) : Nat → Int
  | 0 => r
  | i + 1 => regByte (reg r s i) (prims.sat s i)
theorem crcS_ok (n : Int) (s : ByteArray) (hl : s.size ≤ maxLen) : CallOK Try.prog 25 [aN n, aS s] (N (prims.conv .i64 (prims.xor .u32 (reg (prims.xor .u32 (prims.conv .u32 n) 4294967295) s s.size) 4294967295))) := by
  rw [maxLen_is] at hl
  obtain ⟨M, hM⟩ := mapEx
  try simp only [hM]
  refine go Try.func25 rfl rfl rfl rfl fun pAdd pSub pMul pQuo pRem pAnd pOr pXor pAndNot pShl pShr pNeg pCompl pConv pLt pLe pEq pSlt pSle pSeq pCat pCatOk pSlen pSsub pSat pIadd pIsub pBnot pBeq pImin pImax pLlen pLsub pLapp pLset pLcopy pLenOk pBytes pRep hF Ca hC r hr => ?_
  cbv
  refine loop_at (α := Nat × Int) (fun a => ⟨[(1, .c (.y (.sc (.string s)))), (5, .c (.y (.sc (.int .u32 a.2)))), (6, .c (.y (.sc (.int .i64 a.1))))], []⟩)
    (fun a => a.1 ≤ s.size ∧ a.2 = reg (prims.xor .u32 (prims.conv .u32 n) 4294967295) s a.1) (fun a => s.size - a.1) (0, _) (by cases hF; rfl) ⟨by omega, by cases hF; rfl⟩ (fun I a hi ih => ?_)
  obtain ⟨i, q⟩ := a
  obtain ⟨hi, hq⟩ := hi
  dsimp only at hi hq
  cbv
  refine brkI (fun h => ?_) (fun h => ?_) <;> try cbv
  · have hs : i < s.size := by cases hF; exact Int.ofNat_lt.1 (lt_t h)
    refine brT (by cases hF; rfl) (brT h ?_)
    refine loop_at (α := Nat × Int) (fun a => ⟨[(1, .c (.y (.sc (.string s)))), (5, .c (.y (.sc (.int .u32 a.2)))), (6, .c (.y (.sc (.int .i64 i)))), (7, .c (.y (.sc (.int .i64 a.1))))], []⟩)
      (fun a => a.1 ≤ 8 ∧ a.2 = regBits (prims.xor .u32 q (prims.conv .u32 (prims.sat s i))) a.1) (fun a => 8 - a.1) (0, _) (by cases hF; rfl) ⟨by omega, by cases hF; rfl⟩ (fun J a hj jh => ?_)
    obtain ⟨j, p⟩ := a
    obtain ⟨hj, hp⟩ := hj
    dsimp only at hj hp
    cbv
    refine brkI (fun h1 => ?_) (fun h1 => ?_) <;> try cbv
    · have h8 : j < 8 := by cases hF; exact Int.ofNat_lt.1 (lt_t h1)
      have e1 : pAdd .i64 (Int.ofNat j) 1 = Int.ofNat (j + 1) := by cases hF; exact add1 (by omega)
      refine brkI (fun h2 => ?_) (fun h2 => ?_) <;> try cbv
      · have e2 : pXor .u32 (pShr .u32 p 1) 3988292384 = regBit p := by cases hF; exact (ite_t h2).symm
        refine brF (by cases hF; rfl) ?_
        conv => arg 1; cbv
        rw [e1, e2]
        exact jh (j + 1, regBit p) ⟨h8, by dsimp only; rw [hp]; rfl⟩ (by dsimp only; omega)
      · have e2 : pShr .u32 p 1 = regBit p := by cases hF; exact (ite_f h2).symm
        refine brF (by cases hF; rfl) ?_
        conv => arg 1; cbv
        rw [e1, e2]
        exact jh (j + 1, regBit p) ⟨h8, by dsimp only; rw [hp]; rfl⟩ (by dsimp only; omega)
    · have h8 : j = 8 := by cases hF; exact Nat.le_antisymm hj (Int.ofNat_le.1 (lt_f h1))
      have e1 : pAdd .i64 (Int.ofNat i) 1 = Int.ofNat (i + 1) := by cases hF; exact add1 (by omega)
      conv => arg 1; cbv
      rw [e1]
      exact ih (i + 1, p) ⟨hs, by dsimp only; rw [hp, hq, h8]; rfl⟩ (by dsimp only; omega)
  · have hs : i = s.size := by cases hF; exact Nat.le_antisymm hi (Int.ofNat_le.1 (lt_f h))
    cases hF; rw [hr, hq, hs]; rfl
theorem register_ok (n : Int) (s : ByteArray) (hl : s.size ≤ maxLen) : CallOK Try.prog 30 [.c (.y (.sc (.int .u32 n))), aS s] ⟨.c (.y (.sc (.int .u32 (reg n s s.size)))), []⟩ := by
  rw [maxLen_is] at hl
  obtain ⟨M, hM⟩ := mapEx
  try simp only [hM]
  refine go Try.func30 rfl rfl rfl rfl fun pAdd pSub pMul pQuo pRem pAnd pOr pXor pAndNot pShl pShr pNeg pCompl pConv pLt pLe pEq pSlt pSle pSeq pCat pCatOk pSlen pSsub pSat pIadd pIsub pBnot pBeq pImin pImax pLlen pLsub pLapp pLset pLcopy pLenOk pBytes pRep hF Ca hC r hr => ?_
  cbv
  refine loop_at (α := Nat × Int) (fun a => ⟨[(0, .c (.y (.sc (.int .u32 a.2)))), (1, .c (.y (.sc (.string s)))), (8, .c (.y (.sc (.int .i64 (pSlen s))))), (9, .c (.y (.sc (.int .i64 a.1))))], []⟩)
    (fun a => a.1 ≤ s.size ∧ a.2 = reg n s a.1) (fun a => s.size - a.1) (0, _) (by cases hF; rfl) ⟨by omega, by cases hF; rfl⟩ (fun I a hi ih => ?_)
  obtain ⟨i, q⟩ := a
  obtain ⟨hi, hq⟩ := hi
  dsimp only at hi hq
  cbv
  refine brkI (fun h => ?_) (fun h => ?_) <;> try cbv
  · have hs : i < s.size := by cases hF; exact Int.ofNat_lt.1 (lt_t h)
    refine brT (by cases hF; rfl) (brT h ?_)
    refine loop_at (α := Nat × Int) (fun a => ⟨[(0, .c (.y (.sc (.int .u32 a.2)))), (1, .c (.y (.sc (.string s)))), (8, .c (.y (.sc (.int .i64 (pSlen s))))), (9, .c (.y (.sc (.int .i64 i)))), (18, .c (.y (.sc (.int .i64 a.1))))], []⟩)
      (fun a => a.1 ≤ 8 ∧ a.2 = regBits (prims.xor .u32 q (prims.conv .u32 (prims.sat s i))) a.1) (fun a => 8 - a.1) (0, _) (by cases hF; rfl) ⟨by omega, by cases hF; rfl⟩ (fun J a hj jh => ?_)
    obtain ⟨j, p⟩ := a
    obtain ⟨hj, hp⟩ := hj
    dsimp only at hj hp
    cbv
    refine brkI (fun h1 => ?_) (fun h1 => ?_) <;> try cbv
    · have h8 : j < 8 := by cases hF; exact Int.ofNat_lt.1 (lt_t h1)
      have e1 : pAdd .i64 (Int.ofNat j) 1 = Int.ofNat (j + 1) := by cases hF; exact add1 (by omega)
      refine brF (by cases hF; rfl) ?_
      refine brkI (fun h2 => ?_) (fun h2 => ?_) <;> try cbv
      · have e2 : pXor .u32 (pShr .u32 p 1) 3988292384 = regBit p := by cases hF; exact (ite_t h2).symm
        conv => arg 1; cbv
        rw [e1, e2]
        exact jh (j + 1, regBit p) ⟨h8, by dsimp only; rw [hp]; rfl⟩ (by dsimp only; omega)
      · have e2 : pShr .u32 p 1 = regBit p := by cases hF; exact (ite_f h2).symm
        conv => arg 1; cbv
        rw [e1, e2]
        exact jh (j + 1, regBit p) ⟨h8, by dsimp only; rw [hp]; rfl⟩ (by dsimp only; omega)
    · have h8 : j = 8 := by cases hF; exact Nat.le_antisymm hj (Int.ofNat_le.1 (lt_f h1))
      have e1 : pAdd .i64 (Int.ofNat i) 1 = Int.ofNat (i + 1) := by cases hF; exact add1 (by omega)
      conv => arg 1; cbv
      rw [e1]
      exact ih (i + 1, p) ⟨hs, by dsimp only; rw [hp, hq, h8]; rfl⟩ (by dsimp only; omega)
  · have hs : i = s.size := by cases hF; exact Nat.le_antisymm hi (Int.ofNat_le.1 (lt_f h))
    cases hF; rw [hr, hq, hs]
def tooLong (s : ByteArray) : Bool := decide (20000 < s.size)
def crcOf (s : ByteArray) : Int := if tooLong s then 0 else prims.conv .i64 (prims.xor .u32 (reg 4294967295 s s.size) 4294967295)
theorem isLong_ok (ts : List ByteArray) (hl : ts.length ≤ 1000) : CallOK Try.prog 26 [.c (.y (.sl 1 (ts.map fun s => [yS s])))] (B (ts.any tooLong)) := by
  obtain ⟨xs, hx⟩ : ∃ xs, xs = ts.map fun s => [yS s] := ⟨_, rfl⟩
  rw [← hx]
  obtain ⟨M, hM⟩ := mapEx
  try simp only [hM]
  refine go Try.func26 rfl rfl rfl rfl fun pAdd pSub pMul pQuo pRem pAnd pOr pXor pAndNot pShl pShr pNeg pCompl pConv pLt pLe pEq pSlt pSle pSeq pCat pCatOk pSlen pSsub pSat pIadd pIsub pBnot pBeq pImin pImax pLlen pLsub pLapp pLset pLcopy pLenOk pBytes pRep hF Ca hC r hr => ?_
  cbv
  refine loop_at (α := Nat) (fun a => ⟨[(5, .c (.y (.sl 1 xs))), (6, .c (.y (.sc (.int .i64 (pLlen xs))))), (7, .c (.y (.sc (.int .i64 a))))], []⟩)
    (fun a => a ≤ ts.length ∧ (ts.take a).any tooLong = false) (fun a => ts.length - a) 0 rfl ⟨by omega, rfl⟩ (fun I i hi ih => ?_)
  obtain ⟨hi, hq⟩ := hi
  cbv
  refine brkI (fun h => ?_) (fun h => ?_) <;> try cbv
  · have hs : i < ts.length := by cases hF; subst hx; have := Int.ofNat_lt.1 (lt_t h); rwa [List.length_map] at this
    obtain ⟨u, hu⟩ : ∃ u, u = ts[i] := ⟨_, rfl⟩
    refine lget (x := [yS u]) (by rw [hx, hu, List.getElem?_map, List.getElem?_eq_getElem hs]; rfl) ?_
    cbv
    have e1 : pAdd .i64 (Int.ofNat i) 1 = Int.ofNat (i + 1) := by cases hF; exact add1 (by omega)
    have e0 : (ts.take (i + 1)).any tooLong = tooLong u := by rw [List.take_succ_eq_append_getElem hs, List.any_append, hq, hu]; simp
    refine brkI (fun h1 => ?_) (fun h1 => ?_) <;> try cbv
    · have h' : tooLong u = true := by cases hF; exact decide_eq_true (Int.ofNat_lt.1 (lt_t h1))
      have : ts.any tooLong = true := List.any_eq_true.2 ⟨u, hu ▸ List.getElem_mem hs, h'⟩
      rw [hr, this]
    · have h' : tooLong u = false := by cases hF; exact decide_eq_false (Nat.not_lt.2 (Int.ofNat_le.1 (lt_f h1)))
      conv => arg 1; cbv
      rw [e1]
      exact ih (i + 1) ⟨hs, by rw [e0, h']⟩ (by omega)
  · have hs : i = ts.length := by cases hF; subst hx; have := Int.ofNat_le.1 (lt_f h); rw [List.length_map] at this; exact Nat.le_antisymm hi this
    rw [hr]
    subst hs
    rw [List.take_length] at hq
    rw [hq]
theorem sCrc_ok (s : ByteArray) (hl : s.size ≤ maxLen) : CallOK Try.prog 28 [aS s] (N (crcOf s)) := by
  obtain ⟨M, hM⟩ := mapEx
  try simp only [hM]
  refine go Try.func28 rfl rfl rfl rfl fun pAdd pSub pMul pQuo pRem pAnd pOr pXor pAndNot pShl pShr pNeg pCompl pConv pLt pLe pEq pSlt pSle pSeq pCat pCatOk pSlen pSsub pSat pIadd pIsub pBnot pBeq pImin pImax pLlen pLsub pLapp pLset pLcopy pLenOk pBytes pRep hF Ca hC r hr => ?_
  cbv
  refine brkI (fun h => ?_) (fun h => ?_) <;> try cbv
  · have h' : tooLong s = true := by cases hF; exact decide_eq_true (Int.ofNat_lt.1 (lt_t h))
    rw [hr, crcOf, ite_t h']
  · have h' : tooLong s = false := by cases hF; exact decide_eq_false (Nat.not_lt.2 (Int.ofNat_le.1 (lt_f h)))
    refine callN hC (crcS_ok _ _ hl) (fun m hm => ?_)
    cbv
    rw [hr, crcOf, ite_f h', hm]; rfl
theorem iCrc_ok (s : ByteArray) (hl : s.size ≤ maxLen) : CallOK Try.prog 13 [aS s] (N (crcOf s)) := by
  obtain ⟨M, hM⟩ := mapEx
  try simp only [hM]
  refine go Try.func13 rfl rfl rfl rfl fun pAdd pSub pMul pQuo pRem pAnd pOr pXor pAndNot pShl pShr pNeg pCompl pConv pLt pLe pEq pSlt pSle pSeq pCat pCatOk pSlen pSsub pSat pIadd pIsub pBnot pBeq pImin pImax pLlen pLsub pLapp pLset pLcopy pLenOk pBytes pRep hF Ca hC r hr => ?_
  cbv
  refine callB hC (isLong_ok [s] (by simp)) (fun h => ?_) (fun h => ?_) <;> cbv
  all_goals rw [List.any_cons, List.any_nil, Bool.or_false] at h
  · rw [hr, crcOf, ite_t h]
  · refine callK hC (register_ok _ _ hl) (fun m hm => ?_)
    cbv
    have e : pCompl .u32 m = pXor .u32 m 4294967295 := by cases hF; exact compl_u32 _
    rw [hr, crcOf, ite_f h, e, hm]
    cases hF; rfl
def crcMore (c : Int) (s : ByteArray) : Int := if tooLong s || !(decide (0 ≤ c) && decide (c ≤ 4294967295)) then 0 else prims.conv .i64 (prims.xor .u32 (reg (prims.xor .u32 (prims.conv .u32 c) 4294967295) s s.size) 4294967295)
theorem sCrcMore_ok (c : Int) (s : ByteArray) (hl : s.size ≤ maxLen) : CallOK Try.prog 12 [aN c, aS s] (N (crcMore c s)) := by
  obtain ⟨M, hM⟩ := mapEx
  try simp only [hM]
  refine go Try.func12 rfl rfl rfl rfl fun pAdd pSub pMul pQuo pRem pAnd pOr pXor pAndNot pShl pShr pNeg pCompl pConv pLt pLe pEq pSlt pSle pSeq pCat pCatOk pSlen pSsub pSat pIadd pIsub pBnot pBeq pImin pImax pLlen pLsub pLapp pLset pLcopy pLenOk pBytes pRep hF Ca hC r hr => ?_
  cbv
  refine brkI (fun h => ?_) (fun h => ?_) <;> try cbv
  · have h' : tooLong s = true := by cases hF; exact decide_eq_true (Int.ofNat_lt.1 (lt_t h))
    repeat' (refine brkI (fun _ => ?_) (fun _ => ?_) <;> try cbv)
    all_goals rw [hr, crcMore, ite_t (by rw [h', Bool.true_or])]
  · have h' : tooLong s = false := by cases hF; exact decide_eq_false (Nat.not_lt.2 (Int.ofNat_le.1 (lt_f h)))
    refine brkI (fun h1 => ?_) (fun h1 => ?_) <;> try cbv
    · repeat' (refine brkI (fun _ => ?_) (fun _ => ?_) <;> try cbv)
      all_goals (cases hF; rw [hr, crcMore, ite_t (by have := lt_t h1; simp [h']; omega)])
    · refine brkI (fun h2 => ?_) (fun h2 => ?_) <;> try cbv
      · cases hF; rw [hr, crcMore, ite_t (by have := lt_t h2; simp [h']; omega)]
      · refine callN hC (crcS_ok _ _ hl) (fun m hm => ?_)
        cbv
        rw [hr, crcMore, ite_f (by cases hF; have := lt_f h1; have := lt_f h2; simp [h']; omega), hm]
theorem iCrcMore_ok (c : Int) (s : ByteArray) (hl : s.size ≤ maxLen) : CallOK Try.prog 11 [aN c, aS s] (N (crcMore c s)) := by
  obtain ⟨M, hM⟩ := mapEx
  try simp only [hM]
  refine go Try.func11 rfl rfl rfl rfl fun pAdd pSub pMul pQuo pRem pAnd pOr pXor pAndNot pShl pShr pNeg pCompl pConv pLt pLe pEq pSlt pSle pSeq pCat pCatOk pSlen pSsub pSat pIadd pIsub pBnot pBeq pImin pImax pLlen pLsub pLapp pLset pLcopy pLenOk pBytes pRep hF Ca hC r hr => ?_
  cbv
  refine callB hC (isLong_ok [s] (by simp)) (fun h => ?_) (fun h => ?_) <;> cbv
  all_goals rw [List.any_cons, List.any_nil, Bool.or_false] at h
  · rw [hr, crcMore, ite_t (by rw [h, Bool.true_or])]
  · refine callB hC (within_ok _ _ _) (fun h' => ?_) (fun h' => ?_) <;> cbv
    · refine callK hC (register_ok _ _ hl) (fun m hm => ?_)
      cbv
      have e1 : pCompl .u32 (pConv .u32 c) = prims.xor .u32 (prims.conv .u32 c) 4294967295 := by cases hF; exact compl_u32 _
      have e : pCompl .u32 m = pXor .u32 m 4294967295 := by cases hF; exact compl_u32 _
      rw [hr, crcMore, ite_f (by rw [h, h']; rfl), e, hm, e1]
      cases hF; rfl
    · rw [hr, crcMore, ite_t (by rw [h', h]; rfl)]
def four (n : Int) : ByteArray := ⟨⟨[lastByte n, lastByte (prims.shr .i64 n 8), lastByte (prims.shr .i64 n 16), lastByte (prims.shr .i64 n 24)]⟩⟩
theorem l01Four_ok (n : Int) : CallOK Try.prog 24 [aN n] (St (four n)) := by
  obtain ⟨M, hM⟩ := mapEx
  try simp only [hM]
  refine go Try.func24 rfl rfl rfl rfl fun pAdd pSub pMul pQuo pRem pAnd pOr pXor pAndNot pShl pShr pNeg pCompl pConv pLt pLe pEq pSlt pSle pSeq pCat pCatOk pSlen pSsub pSat pIadd pIsub pBnot pBeq pImin pImax pLlen pLsub pLapp pLset pLcopy pLenOk pBytes pRep hF Ca hC r hr => ?_
  cbv
  refine brF (by cases hF; rfl) (brF (by cases hF; rfl) (brF (by cases hF; rfl) ?_))
  refine ⟨four n, ⟨by cases hF; simp only [four, bytesL, List.map, lastByte_is]; rfl⟩, ?_⟩
  generalize four n = b at *
  cbv
  exact hr.symm
def crcBare (s : ByteArray) : Int := prims.xor .u32 (reg 4294967295 s s.size) 4294967295
theorem sealed_ok (s : ByteArray) (hl : s.size + 4 ≤ maxLen) : CallOK Try.prog 23 [aS s] (St (s ++ four (crcBare s))) := by
  have hl' : s.size + 4 ≤ 9223372036854775807 := hl
  obtain ⟨M, hM⟩ := mapEx
  try simp only [hM]
  refine go Try.func23 rfl rfl rfl rfl fun pAdd pSub pMul pQuo pRem pAnd pOr pXor pAndNot pShl pShr pNeg pCompl pConv pLt pLe pEq pSlt pSle pSeq pCat pCatOk pSlen pSsub pSat pIadd pIsub pBnot pBeq pImin pImax pLlen pLsub pLapp pLset pLcopy pLenOk pBytes pRep hF Ca hC r hr => ?_
  cbv
  refine callK hC (register_ok _ _ (by omega)) (fun m hm => ?_)
  cbv
  have e : pCompl .u32 m = crcBare s := by rw [hm]; cases hF; exact compl_u32 _
  have e1 : ∀ a b, pShr .u32 a b = prims.shr .u32 a b := fun a b => by cases hF; rfl
  refine brF (by cases hF; rfl) (brF (by cases hF; rfl) (brF (by cases hF; rfl) ?_))
  refine ⟨four (crcBare s), ⟨by rw [e]; cases hF; simp only [four, bytesL, List.map, lastByte_is]; rfl⟩, ?_⟩
  have h4 : (four (crcBare s)).size = 4 := rfl
  generalize four (crcBare s) = b at *
  cbv
  refine brT (by cases hF; exact decide_eq_true (by omega)) ?_
  cases hF; exact hr.symm
def sealOf (s : ByteArray) : ByteArray := if 19996 < s.size then ⟨⟨[]⟩⟩ else s ++ four (crcBare s)
theorem sSeal_ok (s : ByteArray) (hl : s.size ≤ maxLen) : CallOK Try.prog 7 [aS s] (St (sealOf s)) := by
  obtain ⟨M, hM⟩ := mapEx
  try simp only [hM]
  refine go Try.func7 rfl rfl rfl rfl fun pAdd pSub pMul pQuo pRem pAnd pOr pXor pAndNot pShl pShr pNeg pCompl pConv pLt pLe pEq pSlt pSle pSeq pCat pCatOk pSlen pSsub pSat pIadd pIsub pBnot pBeq pImin pImax pLlen pLsub pLapp pLset pLcopy pLenOk pBytes pRep hF Ca hC r hr => ?_
  cbv
  refine brkI (fun h => ?_) (fun h => ?_) <;> try cbv
  · have h' : 19996 < s.size := by cases hF; exact Int.ofNat_lt.1 (lt_t h)
    rw [hr, sealOf, if_pos h']
  · have h' : ¬ 19996 < s.size := by cases hF; exact Nat.not_lt.2 (Int.ofNat_le.1 (lt_f h))
    refine callN hC (crcS_ok _ _ hl) (fun m hm => ?_)
    cbv
    refine callS hC (l01Four_ok _) (fun b hb => ?_)
    cbv
    have em : m = crcBare s := by rw [hm]; exact conv_i64_xor _ _
    refine brT (by cases hF; rw [hb]; exact decide_eq_true (by show s.size + 4 ≤ _; omega)) ?_
    rw [hr, sealOf, if_neg h', hb, em]; cases hF; rfl
theorem iSeal_ok (s : ByteArray) (hl : s.size ≤ maxLen) : CallOK Try.prog 6 [aS s] (St (sealOf s)) := by
  obtain ⟨M, hM⟩ := mapEx
  try simp only [hM]
  refine go Try.func6 rfl rfl rfl rfl fun pAdd pSub pMul pQuo pRem pAnd pOr pXor pAndNot pShl pShr pNeg pCompl pConv pLt pLe pEq pSlt pSle pSeq pCat pCatOk pSlen pSsub pSat pIadd pIsub pBnot pBeq pImin pImax pLlen pLsub pLapp pLset pLcopy pLenOk pBytes pRep hF Ca hC r hr => ?_
  cbv
  refine brkI (fun h => ?_) (fun h => ?_) <;> try cbv
  · have h' : 19996 < s.size := by cases hF; exact Int.ofNat_lt.1 (lt_t h)
    rw [hr, sealOf, if_pos h']
  · have h' : ¬ 19996 < s.size := by cases hF; exact Nat.not_lt.2 (Int.ofNat_le.1 (lt_f h))
    refine callS hC (sealed_ok s (by rw [maxLen_is]; omega)) (fun b hb => ?_)
    cbv
    rw [hr, sealOf, if_neg h', hb]
abbrev TO (t : ByteArray) (a c : Int) : Res := ⟨.agg [.y (yS t), .y (yN a), .y (yN c)], []⟩
def bodyOf (s : ByteArray) : ByteArray := s.extract 0 (s.size - 4)
def sumRight (s : ByteArray) : Bool := (bodyOf s ++ four (crcBare (bodyOf s))).toList == s.toList
def unText (s : ByteArray) : ByteArray := if 20000 < s.size then ⟨⟨[]⟩⟩ else if s.size < 4 then ⟨⟨[]⟩⟩ else if sumRight s then bodyOf s else ⟨⟨[]⟩⟩
def unCode (s : ByteArray) : Int := if 20000 < s.size then 2 else if s.size < 4 then 4 else if sumRight s then 0 else 5
theorem sumSplit (s : ByteArray) (h : 4 ≤ s.size) : sumRight s = ((four (crcBare (bodyOf s))).toList == (s.extract (s.size - 4) s.size).toList) := by
  rw [sumRight, seq_is, seq_is, Bool.eq_iff_iff, decide_eq_true_iff, decide_eq_true_iff]
  have e : s = bodyOf s ++ s.extract (s.size - 4) s.size := by
    rw [bodyOf, ByteArray.extract_append_extract, Nat.min_eq_left (by omega), Nat.max_eq_right (by omega), ByteArray.extract_zero_size]
  conv => lhs; rhs; rw [e]
  exact ByteArray.append_right_inj _
theorem iUnseal_ok (s : ByteArray) (hl : s.size ≤ maxLen) : CallOK Try.prog 9 [aS s] (TO (unText s) 0 (unCode s)) := by
  obtain ⟨M, hM⟩ := mapEx
  try simp only [hM]
  refine go Try.func9 rfl rfl rfl rfl fun pAdd pSub pMul pQuo pRem pAnd pOr pXor pAndNot pShl pShr pNeg pCompl pConv pLt pLe pEq pSlt pSle pSeq pCat pCatOk pSlen pSsub pSat pIadd pIsub pBnot pBeq pImin pImax pLlen pLsub pLapp pLset pLcopy pLenOk pBytes pRep hF Ca hC r hr => ?_
  cbv
  refine callB hC (isLong_ok [s] (by simp)) (fun h => ?_) (fun h => ?_) <;> cbv
  all_goals rw [List.any_cons, List.any_nil, Bool.or_false] at h
  · have h' : 20000 < s.size := of_decide_eq_true h
    rw [hr, unText, unCode, if_pos h', if_pos h']
  · have h' : ¬ 20000 < s.size := of_decide_eq_false h
    refine brkI (fun h1 => ?_) (fun h1 => ?_) <;> try cbv
    · have h1' : s.size < 4 := by cases hF; have := lt_t h1; change IntKind.i64.wrap ((s.size : Int) - 4) < 0 at this; rw [wrap_i64 (by omega) (by omega)] at this; omega
      rw [hr, unText, unCode, if_neg h', if_neg h', if_pos h1', if_pos h1']
    · have h1' : ¬ s.size < 4 := by cases hF; have := lt_f h1; change 0 ≤ IntKind.i64.wrap ((s.size : Int) - 4) at this; rw [wrap_i64 (by omega) (by omega)] at this; omega
      have e : pSub .i64 (pSlen s) 4 = (s.size - 4 : Nat) := by cases hF; show IntKind.i64.wrap ((s.size : Int) - 4) = _; rw [wrap_i64 (by omega) (by omega)]; omega
      have eb : pSsub s 0 (pSub .i64 (pSlen s) 4) = bodyOf s := by rw [e]; cases hF; rfl
      have eb' : (bodyOf s).size + 4 ≤ maxLen := by rw [maxLen_is]; simp [bodyOf]; omega
      have g1 : pLe 0 (pSub .i64 (pSlen s) 4) = true := by rw [e]; cases hF; exact mk_le (a := 0) (b := ((s.size - 4 : Nat) : Int)) (by omega)
      have g2 : pLe (pSub .i64 (pSlen s) 4) (pSlen s) = true := by rw [e]; cases hF; exact mk_le (a := ((s.size - 4 : Nat) : Int)) (b := s.size) (by omega)
      refine brT g1 (brT g2 ?_)
      rw [eb]
      obtain ⟨t, ht⟩ : ∃ t, t = bodyOf s := ⟨_, rfl⟩
      rw [← ht] at eb' ⊢
      refine callS hC (sealed_ok _ eb') (fun b hb => ?_)
      cbv
      refine brkI (fun h3 => ?_) (fun h3 => ?_) <;> try cbv
      · have : sumRight s = true := by rw [sumRight, ← ht, ← hb]; cases hF; exact h3
        refine brT g1 (brT g2 ?_)
        rw [eb]
        rw [hr, unText, unCode, if_neg h', if_neg h', if_neg h1', if_neg h1', ite_t this, ite_t this]
      · have : sumRight s = false := by rw [sumRight, ← ht, ← hb]; cases hF; exact h3
        rw [hr, unText, unCode, if_neg h', if_neg h', if_neg h1', if_neg h1', ite_f this, ite_f this]
def less (left : Int) (s : ByteArray) : Int := if left < s.size then -1 else left - s.size
theorem less_le {left : Int} (s : ByteArray) (h : ¬ less left s < 0) : 0 ≤ less left s ∧ less left s ≤ left := by
  unfold less at *
  split at h <;> rename_i h1
  · exact absurd h (by decide)
  · rw [if_neg h1]; omega
end Go.Proofs.Ytemfaiabbonpnaa
