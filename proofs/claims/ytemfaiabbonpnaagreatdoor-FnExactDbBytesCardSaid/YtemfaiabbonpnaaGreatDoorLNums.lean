/- Functions of the program, each with what it returns, run by the evaluator; the conditions stand in the theorems. -/
import Derived.Test.YtemfaiabbonpnaaGreatDoorLNum
import Derived.Test.YtemfaiabbonpnaaGreatDoorLTy
namespace Go.Proofs.YtemfaiabbonpnaaGreatDoor
open Go Go.Proofs.YtemfaiabbonpnaaGreatDoorW Go.Proofs
set_option linter.unusedVariables false
set_option linter.unusedSimpArgs false
set_option maxRecDepth 100000
set_option maxHeartbeats 1600000
/-! The bytes of lists of numbers, and of truths. -/
def numsTo (l : List Int) : Nat → ByteArray
  | 0 => putNum (Int.ofNat l.length)
  | i + 1 => numsTo l i ++ putNum (l.getD i 0)
def numsB (l : List Int) : ByteArray := numsTo l l.length
theorem i64nat {n : Nat} (h : n ≤ 9223372036854775807) : I64 (Int.ofNat n) := ⟨by ((try simp only [Int.ofNat_eq_natCast] at *); omega), by ((try simp only [Int.ofNat_eq_natCast] at *); omega)⟩
theorem numsTo_size {l : List Int} (hl : l.length ≤ 1048576) (hi : ∀ v ∈ l, I64 v) : ∀ i, i ≤ l.length → (numsTo l i).size ≤ 10 * (i + 1)
  | 0, _ => putNum_size _ (i64nat (by omega))
  | i + 1, h => by
    have h1 := numsTo_size hl hi i (by omega)
    have h2 := putNum_size (l.getD i 0) (by rw [getD_at (show i < l.length by omega)]; exact hi _ (List.getElem_mem _))
    rw [numsTo, ByteArray.size_append]; omega
theorem l03Nums_ok (l : List Int) (hl : l.length ≤ 1048576) (hi : ∀ v ∈ l, I64 v) : CallOK Tryz.prog 44 [.c (.y (.sl 1 (l.map rowI)))] (St (numsB l)) := by
  have cP := sPutNum_ok
  have hn := @numsTo_size l hl hi
  have hg : ∀ i, i < l.length → I64 (l.getD i 0) := fun i h => by rw [getD_at h]; exact hi _ (List.getElem_mem _)
  have hz : ∀ n, I64 n → (putNum n).size ≤ 10 := putNum_size
  have h0 : numsTo l 0 = putNum (Int.ofNat l.length) := rfl
  have h1 : ∀ i, numsTo l (i + 1) = numsTo l i ++ putNum (l.getD i 0) := fun _ => rfl
  have he : numsB l = numsTo l l.length := rfl
  have hlen : I64 (Int.ofNat l.length) := i64nat (by omega)
  obtain ⟨xs, hx⟩ : ∃ xs, xs = l.map rowI := ⟨_, rfl⟩
  have hxl : xs.length = l.length := by rw [hx, List.length_map]
  rw [← hx]
  obtain ⟨T, hT⟩ : ∃ T, T = numsTo l := ⟨_, rfl⟩
  rw [← hT] at hn h0 h1 he
  obtain ⟨pn, hpn⟩ : ∃ pn, pn = putNum := ⟨_, rfl⟩
  rw [← hpn] at cP hz h0 h1
  obtain ⟨q, hq⟩ : ∃ q, q = numsB l := ⟨_, rfl⟩
  rw [← hq] at he ⊢
  clear hT hpn hq
  obtain ⟨M, hM⟩ := mapEx
  try simp only [hM]
  refine go Tryz.func44 rfl rfl rfl rfl fun pAdd pSub pMul pQuo pRem pAnd pOr pXor pAndNot pShl pShr pNeg pCompl pConv pLt pLe pEq pSlt pSle pSeq pCat pCatOk pSlen pSsub pSat pIadd pIsub pBnot pBeq pImin pImax pLlen pLsub pLapp pLset pLcopy pLenOk pBytes pRep hF Ca hC r hr => ?_
  cbv
  obtain ⟨n, hn0⟩ : ∃ n, n = l.length := ⟨_, rfl⟩
  rw [← hn0] at hl hxl h0 he hlen
  have ex : pLlen xs = Int.ofNat n := (llenIs hF _).trans (by rw [hxl]; rfl)
  have ec : pConv .i64 (Int.ofNat n) = Int.ofNat n := by cases hF; exact wrap_i64 (by ((try simp only [Int.ofNat_eq_natCast] at *); omega)) (by ((try simp only [Int.ofNat_eq_natCast] at *); omega))
  rw [ex]
  try rw [ec]
  refine callI hC (cP _ hlen) ?_
  rw [← h0]
  obtain ⟨t0, ht0⟩ : ∃ t, t = T 0 := ⟨_, rfl⟩
  rw [← ht0]
  cbv
  refine loop_u (α := Nat × ByteArray) (fun (i, t) st => (st.n 4 (Int.ofNat i)).str 3 t) (fun x => x.1 ≤ n ∧ x.2 = T x.1) (fun x => n - x.1) (0, t0) rfl ⟨Nat.zero_le _, ht0⟩ (fun K' hK I x hx' ih => ?_)
  obtain ⟨i, t⟩ := x
  obtain ⟨hi', ht⟩ := hx'
  dsimp only at hi' ht
  cbv
  rw [ex]
  refine brkI (fun h => ?_) (fun h => ?_) <;> try cbv
  · have h := ltT hF h
    have hs : i < l.length := by ((try simp only [Int.ofNat_eq_natCast] at *); omega)
    have e1 : pAdd .i64 (Int.ofNat i) 1 = Int.ofNat (i + 1) := add1Is hF (by omega)
    refine lgetR hx hs (fun u hu => ?_)
    cbv
    have hu' : l.getD i 0 = u := getD_of hs hu
    have hiu := hg i hs
    rw [hu'] at hiu
    refine callI hC (cP u hiu) ?_
    obtain ⟨b, hb⟩ : ∃ b, b = pn u := ⟨_, rfl⟩
    rw [← hb]
    cbv
    have hbs := hz u hiu
    rw [← hb] at hbs
    have hts := hn i (by omega)
    rw [← ht] at hts
    refine brT (catOkIs hF (by omega)) ?_
    conv => arg 1; cbv
    rw [e1]
    refine ih (i + 1, pCat t b) _ ⟨by dsimp only; omega, ?_⟩ (by dsimp only; omega) rfl
    dsimp only
    rw [h1, hu', ← hb, ← ht]; exact catIs hF t b
  · have h := ltF hF h
    have hin : i = n := by ((try simp only [Int.ofNat_eq_natCast] at *); omega)
    refine hK _ _ ?_
    cbv
    exact retS hr (by rw [he, ht, hin])
theorem putList_ok (l : List Int) (hl : l.length ≤ 1048576) (hi : ∀ v ∈ l, I64 v) : CallOK Tryz.prog 55 [.c (.y (.sl 1 (l.map rowI)))] (St (numsB l)) := by
  have cP := iPutNum_ok
  have hn := @numsTo_size l hl hi
  have hg : ∀ i, i < l.length → I64 (l.getD i 0) := fun i h => by rw [getD_at h]; exact hi _ (List.getElem_mem _)
  have hz : ∀ n, I64 n → (putNum n).size ≤ 10 := putNum_size
  have h0 : numsTo l 0 = putNum (Int.ofNat l.length) := rfl
  have h1 : ∀ i, numsTo l (i + 1) = numsTo l i ++ putNum (l.getD i 0) := fun _ => rfl
  have he : numsB l = numsTo l l.length := rfl
  have hlen : I64 (Int.ofNat l.length) := i64nat (by omega)
  obtain ⟨xs, hx⟩ : ∃ xs, xs = l.map rowI := ⟨_, rfl⟩
  have hxl : xs.length = l.length := by rw [hx, List.length_map]
  rw [← hx]
  obtain ⟨T, hT⟩ : ∃ T, T = numsTo l := ⟨_, rfl⟩
  rw [← hT] at hn h0 h1 he
  obtain ⟨pn, hpn⟩ : ∃ pn, pn = putNum := ⟨_, rfl⟩
  rw [← hpn] at cP hz h0 h1
  obtain ⟨q, hq⟩ : ∃ q, q = numsB l := ⟨_, rfl⟩
  rw [← hq] at he ⊢
  clear hT hpn hq
  obtain ⟨M, hM⟩ := mapEx
  try simp only [hM]
  refine go Tryz.func55 rfl rfl rfl rfl fun pAdd pSub pMul pQuo pRem pAnd pOr pXor pAndNot pShl pShr pNeg pCompl pConv pLt pLe pEq pSlt pSle pSeq pCat pCatOk pSlen pSsub pSat pIadd pIsub pBnot pBeq pImin pImax pLlen pLsub pLapp pLset pLcopy pLenOk pBytes pRep hF Ca hC r hr => ?_
  cbv
  obtain ⟨n, hn0⟩ : ∃ n, n = l.length := ⟨_, rfl⟩
  rw [← hn0] at hl hxl h0 he hlen
  have ex : pLlen xs = Int.ofNat n := (llenIs hF _).trans (by rw [hxl]; rfl)
  have ec : pConv .i64 (Int.ofNat n) = Int.ofNat n := by cases hF; exact wrap_i64 (by ((try simp only [Int.ofNat_eq_natCast] at *); omega)) (by ((try simp only [Int.ofNat_eq_natCast] at *); omega))
  rw [ex]
  try rw [ec]
  refine callI hC (cP _ hlen) ?_
  rw [← h0]
  obtain ⟨t0, ht0⟩ : ∃ t, t = T 0 := ⟨_, rfl⟩
  rw [← ht0]
  cbv
  rw [ex]
  refine loop_u (α := Nat × ByteArray) (fun (i, t) st => (st.n 11 (Int.ofNat i)).str 3 t) (fun x => x.1 ≤ n ∧ x.2 = T x.1) (fun x => n - x.1) (0, t0) rfl ⟨Nat.zero_le _, ht0⟩ (fun K' hK I x hx' ih => ?_)
  obtain ⟨i, t⟩ := x
  obtain ⟨hi', ht⟩ := hx'
  dsimp only at hi' ht
  cbv
  refine brkI (fun h => ?_) (fun h => ?_) <;> try cbv
  · have h := ltT hF h
    have hs : i < l.length := by ((try simp only [Int.ofNat_eq_natCast] at *); omega)
    have e1 : pAdd .i64 (Int.ofNat i) 1 = Int.ofNat (i + 1) := add1Is hF (by omega)
    refine lgetR hx hs (fun u hu => ?_)
    cbv
    have hu' : l.getD i 0 = u := getD_of hs hu
    have hiu := hg i hs
    rw [hu'] at hiu
    refine callI hC (cP u hiu) ?_
    obtain ⟨b, hb⟩ : ∃ b, b = pn u := ⟨_, rfl⟩
    rw [← hb]
    cbv
    have hbs := hz u hiu
    rw [← hb] at hbs
    have hts := hn i (by omega)
    rw [← ht] at hts
    refine brT (catOkIs hF (by omega)) ?_
    conv => arg 1; cbv
    rw [e1]
    refine ih (i + 1, pCat t b) _ ⟨by dsimp only; omega, ?_⟩ (by dsimp only; omega) rfl
    dsimp only
    rw [h1, hu', ← hb, ← ht]; exact catIs hF t b
  · have h := ltF hF h
    have hin : i = n := by ((try simp only [Int.ofNat_eq_natCast] at *); omega)
    refine hK _ _ ?_
    cbv
    exact retS hr (by rw [he, ht, hin])
def bitB (b : Bool) : ByteArray := putNum (if b then 1 else 0)
theorem bitB_size (b : Bool) : (bitB b).size ≤ 10 := by cases b <;> exact putNum_size _ ⟨by decide, by decide⟩
theorem bitB_e (b : Bool) : bitB b = match b with | true => putNum 1 | false => putNum 0 := by cases b <;> rfl
theorem l03Bool_ok (b : Bool) : CallOK Tryz.prog 43 [aB b] (St (bitB b)) := by
  have c1 := sPutNum_ok 1 ⟨by decide, by decide⟩
  have c0 := sPutNum_ok 0 ⟨by decide, by decide⟩
  rw [bitB_e]
  obtain ⟨q1, hq1⟩ : ∃ q, q = putNum 1 := ⟨_, rfl⟩
  obtain ⟨q0, hq0⟩ : ∃ q, q = putNum 0 := ⟨_, rfl⟩
  rw [← hq1] at c1 ⊢
  rw [← hq0] at c0 ⊢
  clear hq1 hq0
  obtain ⟨M, hM⟩ := mapEx
  try simp only [hM]
  refine go Tryz.func43 rfl rfl rfl rfl fun pAdd pSub pMul pQuo pRem pAnd pOr pXor pAndNot pShl pShr pNeg pCompl pConv pLt pLe pEq pSlt pSle pSeq pCat pCatOk pSlen pSsub pSat pIadd pIsub pBnot pBeq pImin pImax pLlen pLsub pLapp pLset pLcopy pLenOk pBytes pRep hF Ca hC r hr => ?_
  cbv
  cases b <;> cbv
  · refine callI hC c0 ?_
    cbv
    exact retS hr rfl
  · refine callI hC c1 ?_
    cbv
    exact retS hr rfl
theorem bit_ok (b : Bool) : CallOK Tryz.prog 54 [aB b] (St (bitB b)) := by
  have c1 := iPutNum_ok 1 ⟨by decide, by decide⟩
  have c0 := iPutNum_ok 0 ⟨by decide, by decide⟩
  rw [bitB_e]
  obtain ⟨q1, hq1⟩ : ∃ q, q = putNum 1 := ⟨_, rfl⟩
  obtain ⟨q0, hq0⟩ : ∃ q, q = putNum 0 := ⟨_, rfl⟩
  rw [← hq1] at c1 ⊢
  rw [← hq0] at c0 ⊢
  clear hq1 hq0
  obtain ⟨M, hM⟩ := mapEx
  try simp only [hM]
  refine go Tryz.func54 rfl rfl rfl rfl fun pAdd pSub pMul pQuo pRem pAnd pOr pXor pAndNot pShl pShr pNeg pCompl pConv pLt pLe pEq pSlt pSle pSeq pCat pCatOk pSlen pSsub pSat pIadd pIsub pBnot pBeq pImin pImax pLlen pLsub pLapp pLset pLcopy pLenOk pBytes pRep hF Ca hC r hr => ?_
  cbv
  cases b <;> cbv
  · refine callI hC c0 ?_
    cbv
    exact retS hr rfl
  · refine callI hC c1 ?_
    cbv
    exact retS hr rfl
end Go.Proofs.YtemfaiabbonpnaaGreatDoor
