/- Functions of the program, each with what it returns, run by the evaluator; the conditions stand in the theorems. -/
import Derived.Test.YtngnflfjacappaaLShf
import Derived.Test.YtngnflfjacappaaLDisk
import Derived.Test.YtngnflfjacappaaLNum
namespace Go.Proofs.Ytngnflfjacappaa
open Go Go.Proofs.YtngnflfjacappaaW Go.Proofs
set_option linter.unusedVariables false
set_option linter.unusedSimpArgs false
set_option maxRecDepth 100000
set_option maxHeartbeats 8000000
abbrev yU64 (n : Int) : Y := .sc (.int .u64 n)
theorem mul_ok (x y : Nat) (hx : x ≤ 1000000) (hy : y ≤ 1000000) : CallOK Try.prog 79 [.c (.y (yU64 (Int.ofNat x))), .c (.y (yU64 (Int.ofNat y)))] ⟨.tup [(false, [.y (yU64 0)]), (false, [.y (yU64 (Int.ofNat (x * y)))])], []⟩ := by
  have hxy : x * y ≤ 1000000 * 1000000 := Nat.mul_le_mul hx hy
  have := shelf_tup2 (ls := [.int .u64 (Int.ofNat x), .int .u64 (Int.ofNat y)]) (u := .int .u64 0) (v := .int .u64 (Int.ofNat (x * y))) Try.func79 rfl rfl rfl rfl fun w =>
    (Try.bits_Mul x y (by omega) (by omega) w).mono fun e w' h => ⟨by
      rw [h.1, show x * y / 18446744073709551616 = 0 by omega, show x * y % 18446744073709551616 = x * y by omega]; rfl, h.2⟩
  exact this
/-- k rows of a text, then empty ones. -/
def fillS (s : ByteArray) (n k : Nat) : List (List Y) := List.replicate k (rowS s) ++ List.replicate (n - k) (rowS ⟨⟨[]⟩⟩)
theorem fillS_len (s : ByteArray) {n k : Nat} (h : k ≤ n) : (fillS s n k).length = n := by rw [fillS, List.length_append, List.length_replicate, List.length_replicate]; omega
theorem fillS_copy (s : ByteArray) {n k : Nat} (h : k ≤ n) : prims.lcopy (fillS s n k) (Int.ofNat k) (Int.ofNat (n - k)) (List.replicate k (rowS s)) = fillS s n (k + min k (n - k)) := by
  show (fillS s n k).take k ++ (List.replicate k (rowS s)).take (n - k) ++ (fillS s n k).drop (k + min (List.replicate k (rowS s)).length (n - k)) = _
  simp only [fillS, List.take_append, List.take_replicate, List.drop_append, List.drop_replicate, List.length_replicate]
  rw [show min k k = k by omega, show min (k - k) (n - k) = 0 by omega, show k - (k + min k (n - k)) = 0 by omega, List.replicate_zero, List.append_nil, List.replicate_zero, List.nil_append, List.replicate_append_replicate]
  rw [show k + min (n - k) k = k + min k (n - k) by omega, show n - k - (k + min k (n - k) - k) = n - (k + min k (n - k)) by omega]
theorem fillS_all (s : ByteArray) (n : Nat) : fillS s n n = (List.replicate n s).map rowS := by rw [fillS, Nat.sub_self, List.replicate_zero, List.append_nil, List.map_replicate]
theorem fillS_none (s : ByteArray) (n : Nat) : fillS s n 0 = List.replicate n (rowS ⟨⟨[]⟩⟩) := by rw [fillS, List.replicate_zero, List.nil_append]; rfl
theorem fillS_first (s : ByteArray) (n : Nat) : prims.lcopy (fillS s n 0) 0 (Int.ofNat n) [rowS s] = fillS s n (min 1 n) := by
  show (fillS s n 0).take 0 ++ [rowS s].take n ++ (fillS s n 0).drop (0 + min 1 n) = _
  rw [List.take_zero, List.nil_append, fillS_none, List.drop_replicate, fillS, Nat.zero_add]
  cases n with
  | zero => rfl
  | succ n => rw [show min 1 (n + 1) = 1 by omega, List.take_of_length_le (by simp)]; rfl
theorem fillS_sub (s : ByteArray) {n k : Nat} (h : k ≤ n) : prims.lsub (fillS s n k) 0 (Int.ofNat k) = List.replicate k (rowS s) := by
  show ((fillS s n k).drop 0).take k = _
  rw [List.drop_zero, fillS, List.take_append, List.take_replicate, List.length_replicate, Nat.min_self, Nat.sub_self, List.take_zero, List.append_nil]
def diskNew (n : Int) : Dsk := if 0 ≤ n ∧ n ≤ 700 then ⟨List.replicate n.toNat (zerosB 64), []⟩ else ⟨[], []⟩
theorem diskNew_bd (n : Int) : Dsk.Bd 1048576 (diskNew n) := by
  rw [diskNew]
  split
  · refine ⟨⟨by rw [List.length_replicate]; omega, fun v hv => ?_⟩, ⟨Nat.zero_le _, by simp⟩, trivial⟩
    rw [List.eq_of_mem_replicate hv]
    decide
  · exact ⟨⟨Nat.zero_le _, by simp⟩, ⟨Nat.zero_le _, by simp⟩, trivial⟩
theorem sDiskNew_ok (n : Int) (hn : I64 n) : CallOK Try.prog 53 [aN n] (ownD (diskNew n).secs (diskNew n).cache) := by
  obtain ⟨hn0, hn1⟩ := hn
  obtain ⟨z, hz⟩ : ∃ z, z = zerosB 64 := ⟨_, rfl⟩
  obtain ⟨D, hD⟩ : ∃ D, D = diskNew n := ⟨_, rfl⟩
  rw [← hD]
  rw [diskNew, ← hz] at hD
  have hl : ∀ k, Int.ofNat k = n ∨ (n < 0 ∧ k = 0) → n ≤ 700 → (List.replicate k z).map rowS = D.secs.map rowS ∧ D.cache = [] := fun k h h7 => by
    rcases h with h | ⟨h, h0⟩
    · rw [if_pos ⟨by ((try simp only [Int.ofNat_eq_natCast] at *); omega), h7⟩] at hD
      rw [hD, ← h]
      exact ⟨rfl, rfl⟩
    · rw [if_neg (by omega)] at hD
      rw [hD, h0]
      exact ⟨rfl, rfl⟩
  have hbig : 700 < n → D = ⟨[], []⟩ := fun h => by rw [hD, if_neg (by omega)]
  clear hD
  rw [ownD]
  obtain ⟨M, hM⟩ := mapEx
  try simp only [hM]
  refine go Try.func53 rfl rfl rfl rfl fun pAdd pSub pMul pQuo pRem pAnd pOr pXor pAndNot pShl pShr pNeg pCompl pConv pLt pLe pEq pSlt pSle pSeq pCat pCatOk pSlen pSsub pSat pIadd pIsub pBnot pBeq pImin pImax pLlen pLsub pLapp pLset pLcopy pLenOk pBytes pRep hF Ca hC r hr => ?_
  cbv
  refine brkI (fun h => ?_) (fun h => ?_) <;> try cbv
  · rw [hbig (ltT hF h)] at hr
    simp only [← hM] at hr
    exact hr.symm
  have h := ltF hF h
  refine brT (mkLe hF (by decide)) ?_
  try cbv
  refine brT (mkLe hF (by decide)) ?_
  try cbv
  refine brT (lenOkIs hF (by decide)) ?_
  try cbv
  have er : pRep 64 [Y.sc (Value.int IntKind.u8 0)] = bytesL (List.replicate 64 0) := by
    have : pRep 64 [Y.sc (Value.int IntKind.u8 0)] = List.replicate 64 [Y.sc (Value.int IntKind.u8 0)] := repIs hF 64 _
    rw [this]; simp [bytesL]
  refine ⟨z, ⟨by rw [er, hz]; rfl⟩, ?_⟩
  cbv
  refine loop_u (α := Nat × List (List Y)) (fun k st => (st.n 5 (Int.ofNat k.1)).ob 3001 (.ar 1 k.2)) (fun k => (Int.ofNat k.1 ≤ n ∨ k.1 = 0) ∧ k.2 = (List.replicate k.1 z).map rowS) (fun k => n.toNat - k.1) (0, []) rfl ⟨Or.inr rfl, rfl⟩ (fun K' hK I k hi ih => ?_)
  obtain ⟨k, xs⟩ := k
  obtain ⟨hk, hx⟩ := hi
  dsimp only at hk hx
  have hxl : xs.length = k := by rw [hx, List.length_map, List.length_replicate]
  cbv
  refine brkI (fun h2 => ?_) (fun h2 => ?_) <;> try cbv
  · have h2 := ltT hF h2
    refine brT (lenOkIs hF (by
      rw [show pLlen xs = Int.ofNat k from (llenIs hF _).trans (by rw [hxl]; rfl), show pLlen [[Y.sc (.string z)]] = 1 from (llenIs hF _).trans rfl]
      have e5 : pIadd (Int.ofNat k) 1 = Int.ofNat k + 1 := by
        have : prims.iadd (Int.ofNat k) 1 = Int.ofNat k + 1 := rfl
        rw [hF] at this; exact this
      rw [e5]; ((try simp only [Int.ofNat_eq_natCast] at *); omega))) ?_
    try cbv
    conv => arg 1; cbv
    have e1 : pAdd .i64 (Int.ofNat k) 1 = Int.ofNat (k + 1) := add1Is hF (by ((try simp only [Int.ofNat_eq_natCast] at *); omega))
    have e2 : pLapp xs [[Y.sc (.string z)]] = (List.replicate (k + 1) z).map rowS := by
      have : pLapp xs [[Y.sc (.string z)]] = xs ++ [[Y.sc (.string z)]] := lappIs hF _ _
      rw [this, hx, List.replicate_succ', List.map_append]; rfl
    rw [e1, e2]
    exact ih (k + 1, _) _ ⟨Or.inl (by dsimp only; ((try simp only [Int.ofNat_eq_natCast] at *); omega)), rfl⟩ (by dsimp only; ((try simp only [Int.ofNat_eq_natCast] at *); omega)) rfl
  · have h2 := ltF hF h2
    obtain ⟨a, b⟩ := hl k (by ((try simp only [Int.ofNat_eq_natCast] at *); omega)) h
    refine hK _ _ ?_
    cbv
    simp only [← hM] at hr
    rw [hx, hr, b, ← a]
    rfl
end Go.Proofs.Ytngnflfjacappaa
