/- Functions of the program, each with what it returns, run by the evaluator; the conditions stand in the theorems. -/
import Derived.Test.YtemfaiabbonpnaaGreatDoorLBytes
namespace Go.Proofs.YtemfaiabbonpnaaGreatDoor
open Go Go.Proofs.YtemfaiabbonpnaaGreatDoorW Go.Proofs
set_option linter.unusedVariables false
set_option linter.unusedSimpArgs false
set_option maxRecDepth 100000
set_option maxHeartbeats 8000000
theorem wrap_u64 (n : Int) : IntKind.u64.wrap n = n % 18446744073709551616 := by simp [IntKind.wrap, IntKind.bits, IntKind.signed]
theorem or128 (y : Int) (h0 : 0 ≤ y) (h1 : y < 256) : bitsW .or .u8 y 128 = y % 128 + 128 := by
  obtain ⟨n, rfl⟩ := Int.eq_ofNat_of_zero_le h0
  have key : ∀ m : Fin 256, bitsW .or .u8 ((m.val : Nat) : Int) 128 = ((m.val : Nat) : Int) % 128 + 128 := by decide +kernel
  exact key ⟨n, by omega⟩
theorem xor_0 (x : Int) (h0 : 0 ≤ x) (h1 : x < 18446744073709551616) : bitsW .xor .u64 x 0 = x := by
  obtain ⟨n, rfl⟩ := Int.eq_ofNat_of_zero_le h0
  have e : BitVec.ofInt 64 0 = 0#64 := by decide
  show IntKind.u64.wrap (((BitVec.ofInt 64 (n : Int) ^^^ BitVec.ofInt 64 0 : BitVec 64).toNat : Nat) : Int) = _
  rw [e, BitVec.ofInt_natCast, BitVec.xor_zero, BitVec.toNat_ofNat, wrap_u64]
  omega
theorem xor_1 (x : Int) (h0 : 0 ≤ x) (h1 : x < 18446744073709551616) : bitsW .xor .u64 x 18446744073709551615 = 18446744073709551615 - x := by
  obtain ⟨n, rfl⟩ := Int.eq_ofNat_of_zero_le h0
  have e : BitVec.ofInt 64 18446744073709551615 = BitVec.allOnes 64 := by decide
  show IntKind.u64.wrap (((BitVec.ofInt 64 (n : Int) ^^^ BitVec.ofInt 64 18446744073709551615 : BitVec 64).toNat : Nat) : Int) = _
  rw [e, BitVec.ofInt_natCast, BitVec.xor_allOnes, BitVec.toNat_not, BitVec.toNat_ofNat, wrap_u64]
  omega
/-- The number that is written: twice n, or twice -n less 1. -/
def foldOf (a : Int) : Int := if a < 0 then -2 * a - 1 else 2 * a
theorem fold_range {a : Int} (h : I64 a) : 0 ≤ foldOf a ∧ foldOf a < 18446744073709551616 := by
  obtain ⟨h1, h2⟩ := h
  unfold foldOf
  split <;> omega
def putL (u : Nat) : List UInt8 := if u < 128 then [UInt8.ofNat u] else UInt8.ofNat (u % 128 + 128) :: putL (u / 128)
termination_by u
decreasing_by omega
def putNum (n : Int) : ByteArray := ⟨⟨putL (foldOf n).toNat⟩⟩
abbrev aU (n : Int) : A := .c (.y (.sc (.int .u64 n)))
theorem l01Fold_ok (n : Int) (h : I64 n) : CallOK Tryz.prog 41 [aN n] ⟨.c (.y (.sc (.int .u64 (foldOf n)))), []⟩ := by
  obtain ⟨ha, hb⟩ := h
  obtain ⟨M, hM⟩ := mapEx
  try simp only [hM]
  refine go Tryz.func41 rfl rfl rfl rfl fun pAdd pSub pMul pQuo pRem pAnd pOr pXor pAndNot pShl pShr pNeg pCompl pConv pLt pLe pEq pSlt pSle pSeq pCat pCatOk pSlen pSsub pSat pIadd pIsub pBnot pBeq pImin pImax pLlen pLsub pLapp pLset pLcopy pLenOk pBytes pRep hF Ca hC r hr => ?_
  cbv
  refine brkI (fun h => ?_) (fun h => ?_) <;> try cbv
  · have h' : n < 0 := by cases hF; exact lt_t h
    rw [hr, foldOf, if_pos h']
    have e : pAdd .u64 (pMul .u64 2 (pConv .u64 (pNeg .i64 (pAdd .i64 n 1)))) 1 = -2 * n - 1 := by
      cases hF
      show IntKind.u64.wrap (IntKind.u64.wrap (2 * IntKind.u64.wrap (IntKind.i64.wrap (0 - IntKind.i64.wrap (n + 1)))) + 1) = _
      rw [wrap_i64 (n := n + 1) (by omega) (by omega), wrap_i64 (by omega) (by omega)]
      simp only [wrap_u64]; omega
    rw [e]
  · have h' : ¬ n < 0 := by cases hF; exact Int.not_lt.2 (lt_f h)
    rw [hr, foldOf, if_neg h']
    have e : pMul .u64 2 (pConv .u64 n) = 2 * n := by
      cases hF
      show IntKind.u64.wrap (2 * IntKind.u64.wrap n) = _
      simp only [wrap_u64]; omega
    rw [e]
theorem putL_lt {u : Nat} (h : u < 128) : putL u = [UInt8.ofNat u] := by rw [putL, if_pos h]
theorem putL_ge {u : Nat} (h : 128 ≤ u) : putL u = UInt8.ofNat (u % 128 + 128) :: putL (u / 128) := by rw [putL, if_neg (by omega)]
abbrev yU8 (n : Int) : Y := .sc (.int .u8 n)
/-- What the loops keep. -/
structure PutAt (n q : Int) (xs : List (List Y)) : Prop where
  ex : ∃ acc, xs = bytesL acc ∧ 0 ≤ q ∧ q < 18446744073709551616 ∧ acc ++ putL q.toNat = putL (foldOf n).toNat
theorem PutAt.start {n : Int} (h : I64 n) : PutAt n (foldOf n) [] := ⟨[], rfl, (fold_range h).1, (fold_range h).2, rfl⟩
theorem byteY (u : Nat) (h : u < 256) : Y.sc (.int .u8 (u : Int)) = Y.sc (.int .u8 ((UInt8.ofNat u).toNat : Int)) := by
  have : (UInt8.ofNat u).toNat = u := by simp [UInt8.toNat_ofNat']; omega
  rw [this]
theorem PutAt.step {n q : Int} {xs : List (List Y)} (h : PutAt n q xs) (hq : 128 ≤ q) : PutAt n (q / 128) (prims.lapp xs [[.sc (.int .u8 (q % 128 + 128))]]) := by
  obtain ⟨acc, rfl, h0, h1, h2⟩ := h
  obtain ⟨u, rfl⟩ := Int.eq_ofNat_of_zero_le h0
  refine ⟨acc ++ [UInt8.ofNat (u % 128 + 128)], ?_, by omega, by omega, ?_⟩
  · have := byteY (u % 128 + 128) (by omega)
    simp only [bytesL, List.map_append, List.map_cons, List.map_nil]
    rw [← this]; rfl
  · rw [← h2]
    have e : ((u : Int) / 128).toNat = u / 128 := by have : ((u : Int) / 128) = ((u / 128 : Nat) : Int) := by omega
                                                     rw [this]; rfl
    have e' : (u : Int).toNat = u := rfl
    rw [e, e', putL_ge (u := u) (by omega), List.append_assoc]; rfl
theorem PutAt.stop {n q : Int} {xs : List (List Y)} (h : PutAt n q xs) (hq : q < 128) : BytesOf (prims.lapp xs [[.sc (.int .u8 q)]]) (putNum n) := by
  obtain ⟨acc, rfl, h0, h1, h2⟩ := h
  obtain ⟨u, rfl⟩ := Int.eq_ofNat_of_zero_le h0
  refine ⟨?_⟩
  have e' : (u : Int).toNat = u := rfl
  have := byteY u (by omega)
  show bytesL acc ++ _ = bytesL (putL (foldOf n).toNat)
  rw [← h2, e', putL_lt (by omega)]
  simp only [bytesL, List.map_append, List.map_cons, List.map_nil]
  rw [← this]
theorem putL_len : ∀ (d u : Nat), u < 128 ^ (d + 1) → (putL u).length ≤ d + 1
  | 0, u, h => by rw [putL_lt (by simpa using h)]; simp
  | d + 1, u, h => by
    by_cases h1 : u < 128
    · rw [putL_lt h1]; simp
    · rw [putL_ge (by omega), List.length_cons]
      have := putL_len d (u / 128) (by rw [Nat.pow_succ] at h; omega)
      omega
theorem PutAt.short {n q : Int} {xs : List (List Y)} (h : PutAt n q xs) (hn : I64 n) : xs.length ≤ 1000 := by
  obtain ⟨acc, rfl, h0, h1, h2⟩ := h
  have := putL_len 9 (foldOf n).toNat (by have := fold_range hn; omega)
  rw [← h2, List.length_append] at this
  rw [bytesL, List.length_map]; omega
theorem sPutNum_ok (n : Int) (h : I64 n) : CallOK Tryz.prog 17 [aN n] (St (putNum n)) := by
  obtain ⟨b, hb⟩ : ∃ b, b = putNum n := ⟨_, rfl⟩
  rw [← hb]
  obtain ⟨M, hM⟩ := mapEx
  try simp only [hM]
  refine go Tryz.func17 rfl rfl rfl rfl fun pAdd pSub pMul pQuo pRem pAnd pOr pXor pAndNot pShl pShr pNeg pCompl pConv pLt pLe pEq pSlt pSle pSeq pCat pCatOk pSlen pSsub pSat pIadd pIsub pBnot pBeq pImin pImax pLlen pLsub pLapp pLset pLcopy pLenOk pBytes pRep hF Ca hC r hr => ?_
  cbv
  refine callK hC (l01Fold_ok _ h) (fun u hu => ?_)
  cbv
  refine loop_k (α := Int × List (List Y)) (fun a => ⟨[(3, .c (.y (.sc (.int .u64 a.1)))), (4, .c (.aw 4001))], [(4001, .ar 1 a.2)]⟩)
    (fun a => PutAt n a.1 a.2) (fun a => a.1.toNat) (u, []) rfl (hu ▸ PutAt.start h) (fun K0 hK I a hi ih => ?_)
  obtain ⟨q, xs⟩ := a
  dsimp only at hi
  obtain ⟨_, _, hq0, hq1, _⟩ := id hi
  cbv
  refine brkI (fun h0 => ?_) (fun h0 => ?_) <;> cbv
  · have h1 : 128 ≤ q := by cases hF; exact le_t h0
    have hx : xs.length ≤ 1000 := by cases hF; exact PutAt.short hi h
    refine brF (by cases hF; rfl) (brT (by cases hF; exact decide_eq_true (by show (xs.length : Int) + 1 ≤ 4294967296; omega)) (brF (by cases hF; rfl) ?_))
    conv => arg 1; cbv
    have e1 : pQuo .u64 q 128 = q / 128 := by cases hF; show IntKind.u64.wrap (Int.tdiv q 128) = _; rw [wrap_u64, Int.tdiv_eq_ediv_of_nonneg hq0]; omega
    have e2 : pConv .u8 (pAdd .u64 (pRem .u64 q 128) 128) = q % 128 + 128 := by
      cases hF
      have : IntKind.u64.wrap (Int.tmod q 128 + 128) = q % 128 + 128 := by rw [wrap_u64, Int.tmod_eq_emod_of_nonneg hq0]; omega
      exact (congrArg (prims.conv .u8) this).trans ((conv_u8 _).trans (by omega))
    have e3 : pLapp xs [[yU8 (q % 128 + 128)]] = prims.lapp xs [[yU8 (q % 128 + 128)]] := by cases hF; rfl
    rw [e1, e2, e3]
    exact ih (q / 128, _) (hi.step h1) (by dsimp only; omega)
  · have h1 : q < 128 := by cases hF; exact le_f h0
    have hx : xs.length ≤ 1000 := by cases hF; exact PutAt.short hi h
    refine hK _ _ ?_
    cbv
    refine brT (by cases hF; exact decide_eq_true (by show (xs.length : Int) + 1 ≤ 4294967296; omega)) ?_
    have e1 : pConv .u8 q = q := by cases hF; exact (conv_u8 q).trans (by omega)
    rw [e1]
    refine ⟨b, ?_, ?_⟩
    · rw [hb]; cases hF; exact hi.stop h1
    · cbv
      exact hr.symm
theorem iPutNum_ok (n : Int) (h : I64 n) : CallOK Tryz.prog 25 [aN n] (St (putNum n)) := by
  obtain ⟨b, hb⟩ : ∃ b, b = putNum n := ⟨_, rfl⟩
  rw [← hb]
  obtain ⟨M, hM⟩ := mapEx
  try simp only [hM]
  refine go Tryz.func25 rfl rfl rfl rfl fun pAdd pSub pMul pQuo pRem pAnd pOr pXor pAndNot pShl pShr pNeg pCompl pConv pLt pLe pEq pSlt pSle pSeq pCat pCatOk pSlen pSsub pSat pIadd pIsub pBnot pBeq pImin pImax pLlen pLsub pLapp pLset pLcopy pLenOk pBytes pRep hF Ca hC r hr => ?_
  cbv
  refine brF (by cases hF; rfl) (brF (by cases hF; rfl) ?_)
  obtain ⟨u, hu⟩ : ∃ u, u = pXor .u64 (pShl .u64 (pConv .u64 n) 1) (pConv .u64 (pShr .i64 n 63)) := ⟨_, rfl⟩
  have hu' : u = foldOf n := by
    cases hF
    obtain ⟨ha, hb'⟩ := h
    have e0 : prims.shl .u64 (prims.conv .u64 n) 1 = IntKind.u64.wrap (IntKind.u64.wrap n * 2) := rfl
    have e1 : prims.shr .i64 n 63 = n / 9223372036854775808 := by
      show Int.fdiv n (2 ^ min (63 : Int).toNat 64) = _
      rw [Int.fdiv_eq_ediv_of_nonneg _ (by decide)]; rfl
    have e2 : prims.conv .u64 (n / 9223372036854775808) = IntKind.u64.wrap (n / 9223372036854775808) := rfl
    have key : u = bitsW .xor .u64 (IntKind.u64.wrap (IntKind.u64.wrap n * 2)) (IntKind.u64.wrap (n / 9223372036854775808)) := by
      rw [hu, ← e2, ← e1, ← e0]; rfl
    rw [key, foldOf]
    by_cases hn : n < 0
    · rw [if_pos hn]
      have e : IntKind.u64.wrap (n / 9223372036854775808) = 18446744073709551615 := by rw [wrap_u64]; omega
      rw [e, xor_1 _ (by rw [wrap_u64]; omega) (by rw [wrap_u64]; omega)]
      simp only [wrap_u64]; omega
    · rw [if_neg hn]
      have e : IntKind.u64.wrap (n / 9223372036854775808) = 0 := by rw [wrap_u64]; omega
      rw [e, xor_0 _ (by rw [wrap_u64]; omega) (by rw [wrap_u64]; omega)]
      simp only [wrap_u64]; omega
  rw [← hu]
  refine loop_k (α := Int × List (List Y)) (fun a => ⟨[(3, .c (.y (.sc (.int .u64 a.1)))), (4, .c (.aw 4001))], [(4001, .ar 1 a.2)]⟩)
    (fun a => PutAt n a.1 a.2) (fun a => a.1.toNat) (u, []) rfl (hu' ▸ PutAt.start h) (fun K0 hK I a hi ih => ?_)
  obtain ⟨q, xs⟩ := a
  dsimp only at hi
  obtain ⟨_, _, hq0, hq1, _⟩ := id hi
  refine seqK fun K1 hN hE _ => ?_
  cbv
  refine brkI (fun h0 => ?_) (fun h0 => ?_) <;> cbv
  · have h1 : 128 ≤ q := by cases hF; exact le_t h0
    have hx : xs.length ≤ 1000 := by cases hF; exact PutAt.short hi h
    refine hN _ ?_
    cbv
    refine (brT (by cases hF; exact decide_eq_true (by show (xs.length : Int) + 1 ≤ 4294967296; omega)) (brF (by cases hF; rfl) ?_))
    conv => arg 1; cbv
    have e1 : pShr .u64 q 7 = q / 128 := by
      cases hF
      show Int.fdiv q (2 ^ min (7 : Int).toNat 64) = _
      rw [Int.fdiv_eq_ediv_of_nonneg _ (by decide)]; rfl
    have e2 : pOr .u8 (pConv .u8 q) 128 = q % 128 + 128 := by
      cases hF
      have : prims.conv .u8 q = q % 256 := conv_u8 q
      exact (congrArg (fun z => bitsW .or .u8 z 128) this).trans ((or128 _ (by omega) (by omega)).trans (by omega))
    have e3 : pLapp xs [[yU8 (q % 128 + 128)]] = prims.lapp xs [[yU8 (q % 128 + 128)]] := by cases hF; rfl
    rw [e1, e2, e3]
    exact ih (q / 128, _) (hi.step h1) (by dsimp only; omega)
  · have h1 : q < 128 := by cases hF; exact le_f h0
    have hx : xs.length ≤ 1000 := by cases hF; exact PutAt.short hi h
    refine hE _ _ (hK _ _ ?_)
    cbv
    refine brT (by cases hF; exact decide_eq_true (by show (xs.length : Int) + 1 ≤ 4294967296; omega)) ?_
    have e1 : pConv .u8 q = q := by cases hF; exact (conv_u8 q).trans (by omega)
    rw [e1]
    refine ⟨b, ?_, ?_⟩
    · rw [hb]; cases hF; exact hi.stop h1
    · cbv
      exact hr.symm
theorem putNum_size (n : Int) (h : I64 n) : (putNum n).size ≤ 10 := putL_len 9 (foldOf n).toNat (by have := fold_range h; omega)
def putText (s : ByteArray) : ByteArray := if tooLong s then ⟨⟨[]⟩⟩ else putNum s.size ++ s
theorem sPutText_ok (s : ByteArray) : CallOK Tryz.prog 18 [aS s] (St (putText s)) := by
  obtain ⟨M, hM⟩ := mapEx
  try simp only [hM]
  refine go Tryz.func18 rfl rfl rfl rfl fun pAdd pSub pMul pQuo pRem pAnd pOr pXor pAndNot pShl pShr pNeg pCompl pConv pLt pLe pEq pSlt pSle pSeq pCat pCatOk pSlen pSsub pSat pIadd pIsub pBnot pBeq pImin pImax pLlen pLsub pLapp pLset pLcopy pLenOk pBytes pRep hF Ca hC r hr => ?_
  cbv
  refine brkI (fun h => ?_) (fun h => ?_) <;> try cbv
  · have h' : tooLong s = true := by cases hF; exact decide_eq_true (Int.ofNat_lt.1 (lt_t h))
    rw [hr, putText, ite_t h']
  · have h1 : s.size ≤ 20000 := by cases hF; exact Int.ofNat_le.1 (lt_f h)
    have h' : tooLong s = false := decide_eq_false (by omega)
    have e : pSlen s = (s.size : Int) := by cases hF; rfl
    have hi : I64 (s.size : Int) := ⟨by omega, by omega⟩
    rw [e]
    refine callS hC (sPutNum_ok _ hi) (fun b hb => ?_)
    cbv
    have hz : b.size ≤ 10 := by rw [hb]; exact putNum_size _ hi
    refine brT (by cases hF; exact decide_eq_true (by omega)) ?_
    rw [hr, putText, ite_f h', hb]; cases hF; rfl
theorem iPutText_ok (s : ByteArray) : CallOK Tryz.prog 26 [aS s] (St (putText s)) := by
  obtain ⟨M, hM⟩ := mapEx
  try simp only [hM]
  refine go Tryz.func26 rfl rfl rfl rfl fun pAdd pSub pMul pQuo pRem pAnd pOr pXor pAndNot pShl pShr pNeg pCompl pConv pLt pLe pEq pSlt pSle pSeq pCat pCatOk pSlen pSsub pSat pIadd pIsub pBnot pBeq pImin pImax pLlen pLsub pLapp pLset pLcopy pLenOk pBytes pRep hF Ca hC r hr => ?_
  cbv
  refine callB hC (isLong_ok [s] (by simp)) (fun h => ?_) (fun h => ?_) <;> cbv
  all_goals rw [List.any_cons, List.any_nil, Bool.or_false] at h
  · rw [hr, putText, ite_t h]
  · have h1 : s.size ≤ 20000 := Nat.not_lt.1 (of_decide_eq_false h)
    have e : pSlen s = (s.size : Int) := by cases hF; rfl
    have hi : I64 (s.size : Int) := ⟨by omega, by omega⟩
    rw [e]
    refine callS hC (iPutNum_ok _ hi) (fun b hb => ?_)
    cbv
    have hz : b.size ≤ 10 := by rw [hb]; exact putNum_size _ hi
    refine brT (by cases hF; exact decide_eq_true (by omega)) ?_
    rw [hr, putText, ite_f h, hb]; cases hF; rfl
end Go.Proofs.YtemfaiabbonpnaaGreatDoor
