/- Functions of the program, each with what it returns, run by the evaluator; the conditions stand in the theorems. -/
import Derived.Test.YtocjbababdlilaaLShf
import Derived.Test.YtocjbababdlilaaLDisk
import Derived.Test.YtocjbababdlilaaLNum
namespace Go.Proofs.Ytocjbababdlilaa
open Go Go.Proofs.YtocjbababdlilaaW Go.Proofs
set_option linter.unusedVariables false
set_option linter.unusedSimpArgs false
set_option maxRecDepth 100000
set_option maxHeartbeats 8000000
abbrev yU64 (n : Int) : Y := .sc (.int .u64 n)
theorem mul_ok (x y : Nat) (hx : x ≤ 1000000) (hy : y ≤ 1000000) : CallOK Try.prog 113 [.c (.y (yU64 (Int.ofNat x))), .c (.y (yU64 (Int.ofNat y)))] ⟨.tup [(false, [.y (yU64 0)]), (false, [.y (yU64 (Int.ofNat (x * y)))])], []⟩ := by
  have hxy : x * y ≤ 1000000 * 1000000 := Nat.mul_le_mul hx hy
  have := shelf_tup2 (ls := [.int .u64 (Int.ofNat x), .int .u64 (Int.ofNat y)]) (u := .int .u64 0) (v := .int .u64 (Int.ofNat (x * y))) Try.func113 rfl rfl rfl rfl fun w =>
    (Try.bits_Mul x y (by omega) (by omega) w).mono fun e w' h => ⟨by
      rw [h.1, show x * y / 18446744073709551616 = 0 by omega, show x * y % 18446744073709551616 = x * y by omega]; rfl, h.2⟩
  exact this
theorem empty_ok : CallOK Try.prog 76 [] (St (zerosB 64)) := by
  have c := zeros_ok 64 (by omega)
  obtain ⟨bk, hbk⟩ : ∃ b, b = zerosB 64 := ⟨_, rfl⟩
  rw [← hbk] at c ⊢
  rw [show Int.ofNat 64 = 64 from rfl] at c
  obtain ⟨M, hM⟩ := mapEx
  try simp only [hM]
  refine go Try.func76 rfl rfl rfl rfl fun pAdd pSub pMul pQuo pRem pAnd pOr pXor pAndNot pShl pShr pNeg pCompl pConv pLt pLe pEq pSlt pSle pSeq pCat pCatOk pSlen pSsub pSat pIadd pIsub pBnot pBeq pImin pImax pLlen pLsub pLapp pLset pLcopy pLenOk pBytes pRep hF Ca hC r hr => ?_
  cbv
  refine callS hC (by have hh := c; (try simp only [hM] at hh); exact hh) (fun s hs => ?_)
  cbv
  exact retS hr hs.symm
/-- k rows of a text, then empty ones. -/
def fillS (s : ByteArray) (n k : Nat) : List (List Y) := List.replicate k (rowS s) ++ List.replicate (n - k) (rowS ⟨⟨[]⟩⟩)
theorem fillS_len (s : ByteArray) {n k : Nat} (h : k ≤ n) : (fillS s n k).length = n := by rw [fillS, List.length_append, List.length_replicate, List.length_replicate]; omega
theorem fillS_copy (s : ByteArray) {n k : Nat} (h : k ≤ n) : prims.lcopy (fillS s n k) (Int.ofNat k) (Int.ofNat (n - k)) (List.replicate k (rowS s)) = fillS s n (k + min k (n - k)) := by
  show (fillS s n k).take k ++ (List.replicate k (rowS s)).take (n - k) ++ (fillS s n k).drop (k + min (List.replicate k (rowS s)).length (n - k)) = _
  simp only [fillS, List.take_append, List.take_replicate, List.drop_append, List.drop_replicate, List.length_replicate]
  rw [show min k k = k by omega, show min (k - k) (n - k) = 0 by omega, show k - (k + min k (n - k)) = 0 by omega, List.replicate_zero, List.append_nil, List.replicate_zero, List.nil_append, List.replicate_append_replicate]
  rw [show k + min (n - k) k = k + min k (n - k) by omega, show n - k - (k + min k (n - k) - k) = n - (k + min k (n - k)) by omega]
theorem fillS_all (s : ByteArray) (n : Nat) : fillS s n n = (List.replicate n s).map rowS := by rw [fillS, Nat.sub_self, List.replicate_zero, List.append_nil, List.map_replicate]
theorem fillS_none (s : ByteArray) (n : Nat) : fillS s n 0 = List.replicate n (rowS ⟨⟨[]⟩⟩) := by rw [fillS, List.replicate_zero, List.nil_append]; rfl
theorem fillS_first (s : ByteArray) (n : Nat) : prims.lcopy (fillS s n 0) 0 (Int.ofNat n) [rowS s] = fillS s n (min 1 n) := by
  show (fillS s n 0).take 0 ++ [rowS s].take n ++ (fillS s n 0).drop (0 + min 1 n) = _
  rw [List.take_zero, List.nil_append, fillS_none, List.drop_replicate, fillS, Nat.zero_add]
  cases n with
  | zero => rfl
  | succ n => rw [show min 1 (n + 1) = 1 by omega, List.take_of_length_le (by simp)]; rfl
theorem fillS_sub (s : ByteArray) {n k : Nat} (h : k ≤ n) : prims.lsub (fillS s n k) 0 (Int.ofNat k) = List.replicate k (rowS s) := by
  show ((fillS s n k).drop 0).take k = _
  rw [List.drop_zero, fillS, List.take_append, List.take_replicate, List.length_replicate, Nat.min_self, Nat.sub_self, List.take_zero, List.append_nil]
theorem repeat_ok (s : ByteArray) (n : Nat) (hn : n ≤ 1000) : CallOK Try.prog 75 [.c (.y (.sl 1 [rowS s])), aN (Int.ofNat n)] ⟨.c (.own 1 ((List.replicate n s).map rowS)), []⟩ := by
  have cm := mul_ok 1 n (by decide) (by omega)
  rw [Nat.one_mul] at cm
  obtain ⟨q, hq⟩ : ∃ q, q = (List.replicate n s).map rowS := ⟨_, rfl⟩
  rw [← hq]
  have hfa := fillS_all s n
  have hf0 := fillS_none s n
  rw [← hq] at hfa
  have one : Int.ofNat 1 = 1 := rfl
  rw [one] at cm
  obtain ⟨M, hM⟩ := mapEx
  try simp only [hM]
  refine go Try.func75 rfl rfl rfl rfl fun pAdd pSub pMul pQuo pRem pAnd pOr pXor pAndNot pShl pShr pNeg pCompl pConv pLt pLe pEq pSlt pSle pSeq pCat pCatOk pSlen pSsub pSat pIadd pIsub pBnot pBeq pImin pImax pLlen pLsub pLapp pLset pLcopy pLenOk pBytes pRep hF Ca hC r hr => ?_
  cbv
  refine brF (mkNlt hF (by ((try simp only [Int.ofNat_eq_natCast] at *); omega))) ?_
  try cbv
  have e1 : pLlen [[Y.sc (.string s)]] = 1 := (llenIs hF _).trans rfl
  rw [e1]
  have e2 : pConv .u64 1 = 1 := by
    have : prims.conv .u64 1 = 1 := rfl
    rw [hF] at this; exact this
  have e3 : pConv .u64 (Int.ofNat n) = Int.ofNat n := by
    have : prims.conv .u64 (Int.ofNat n) = Int.ofNat n := by
      exact (wrap_u64 _).trans (by ((try simp only [Int.ofNat_eq_natCast] at *); omega))
    rw [hF] at this; exact this
  have e4 : pConv .i64 (Int.ofNat n) = Int.ofNat n := by
    have : prims.conv .i64 (Int.ofNat n) = Int.ofNat n := wrap_i64 (by ((try simp only [Int.ofNat_eq_natCast] at *); omega)) (by ((try simp only [Int.ofNat_eq_natCast] at *); omega))
    rw [hF] at this; exact this
  rw [e2, e3]
  refine callI hC cm ?_
  cbv
  refine brF (mkNlt hF (by decide)) ?_
  try cbv
  refine brF (mkNlt hF (by ((try simp only [Int.ofNat_eq_natCast] at *); omega))) ?_
  try cbv
  rw [e4]
  refine brT (zeroLe hF n) ?_
  try cbv
  refine brT (leSelf hF _) ?_
  try cbv
  refine brT (lenOkIs hF (by ((try simp only [Int.ofNat_eq_natCast] at *); omega))) ?_
  try cbv
  have e5 : pRep (Int.ofNat n) [Y.sc (.string ⟨⟨[]⟩⟩)] = fillS s n 0 := by
    have : pRep (Int.ofNat n) [Y.sc (.string ⟨⟨[]⟩⟩)] = List.replicate n [Y.sc (.string ⟨⟨[]⟩⟩)] := repIs hF n _
    rw [this, hf0]; rfl
  rw [e5]
  obtain ⟨FS, hFS⟩ : ∃ FS, FS = fillS s n := ⟨_, rfl⟩
  have fl : ∀ k, k ≤ n → pLlen (FS k) = Int.ofNat n := fun k h => (llenIs hF _).trans (by rw [hFS, fillS_len s h]; rfl)
  have fc : ∀ k, k ≤ n → pLcopy (FS k) (Int.ofNat k) (Int.ofNat (n - k)) (List.replicate k [Y.sc (.string s)]) = FS (k + min k (n - k)) := fun k h => by
    have := fillS_copy s h
    rw [hF] at this
    rw [hFS]; exact this
  have fs : ∀ k, k ≤ n → pLsub (FS k) 0 (Int.ofNat k) = List.replicate k [Y.sc (.string s)] := fun k h => by
    have := fillS_sub s h
    rw [hF] at this
    rw [hFS]; exact this
  have f1 : pLcopy (FS 0) 0 (Int.ofNat n) [[Y.sc (.string s)]] = FS (min 1 n) := by
    have := fillS_first s n
    rw [hF] at this
    rw [hFS]; exact this
  have fa : FS n = q := by rw [hFS]; exact hfa
  rw [← hFS, fl 0 (Nat.zero_le _), f1]
  have mi : ∀ a b : Nat, pImin (Int.ofNat a) (Int.ofNat b) = Int.ofNat (min a b) := fun a b => by
    have : prims.imin (Int.ofNat a) (Int.ofNat b) = Int.ofNat (min a b) := by
      show (if Int.ofNat b < Int.ofNat a then Int.ofNat b else Int.ofNat a) = _
      split <;> ((try simp only [Int.ofNat_eq_natCast] at *); omega)
    rw [hF] at this; exact this
  rw [e1, show pImin 1 (Int.ofNat n) = Int.ofNat (min 1 n) from mi 1 n]
  clear hfa hf0 hFS e5 f1
  obtain ⟨k0, hk0⟩ : ∃ k, k = min 1 n := ⟨_, rfl⟩
  rw [← hk0]
  refine loop_u (α := Nat) (fun k st => (st.n 8 (Int.ofNat k)).ob 7001 (.ar 1 (FS k))) (fun k => k ≤ n ∧ (0 < k ∨ n = 0)) (fun k => n - k) k0 rfl ⟨by omega, by omega⟩ (fun K' hK I k hi ih => ?_)
  obtain ⟨hk, hk1⟩ := hi
  cbv
  rw [fl k hk]
  refine brkI (fun h => ?_) (fun h => ?_) <;> try cbv
  · have h := ltT hF h
    rw [fl k hk]
    refine brT (zeroLe hF k) ?_
    try cbv
    refine brT (mkLe hF (by ((try simp only [Int.ofNat_eq_natCast] at *); omega))) ?_
    try cbv
    refine brT (zeroLe hF k) ?_
    try cbv
    try rw [fl k hk]
    refine brT (mkLe hF (by ((try simp only [Int.ofNat_eq_natCast] at *); omega))) ?_
    try cbv
    have s1 : pIsub (Int.ofNat n) (Int.ofNat k) = Int.ofNat (n - k) := by
      have : prims.isub (Int.ofNat n) (Int.ofNat k) = Int.ofNat (n - k) := by
        show Int.ofNat n - Int.ofNat k = _
        ((try simp only [Int.ofNat_eq_natCast] at *); omega)
      rw [hF] at this; exact this
    have s2 : pIsub (Int.ofNat k) 0 = Int.ofNat k := by
      have : prims.isub (Int.ofNat k) 0 = Int.ofNat k := by
        show Int.ofNat k - 0 = _
        ((try simp only [Int.ofNat_eq_natCast] at *); omega)
      rw [hF] at this; exact this
    conv => arg 1; cbv
    try rw [fl k hk]
    rw [s1, s2, fs k hk, fc k hk]
    rw [show pLlen (List.replicate k [Y.sc (.string s)]) = Int.ofNat k from (llenIs hF _).trans (by rw [List.length_replicate]; rfl), mi k (n - k)]
    have e9 : pAdd .i64 (Int.ofNat k) (Int.ofNat (min k (n - k))) = Int.ofNat (k + min k (n - k)) := addNIs hF (by omega)
    rw [e9]
    exact ih (k + min k (n - k)) _ ⟨by ((try simp only [Int.ofNat_eq_natCast] at *); omega), by ((try simp only [Int.ofNat_eq_natCast] at *); omega)⟩ (by ((try simp only [Int.ofNat_eq_natCast] at *); omega)) rfl
  · have h := ltF hF h
    obtain rfl : k = n := by ((try simp only [Int.ofNat_eq_natCast] at *); omega)
    refine hK _ _ ?_
    cbv
    rw [fa]
    exact hr.symm
def diskNew (n : Int) : Dsk := if 0 ≤ n ∧ n ≤ 700 then ⟨List.replicate n.toNat (zerosB 64), []⟩ else ⟨[], []⟩
theorem diskNew_bd (n : Int) : Dsk.Bd 1048576 (diskNew n) := by
  rw [diskNew]
  split
  · refine ⟨⟨by rw [List.length_replicate]; omega, fun v hv => ?_⟩, ⟨Nat.zero_le _, by simp⟩, trivial⟩
    rw [List.eq_of_mem_replicate hv]
    decide
  · exact ⟨⟨Nat.zero_le _, by simp⟩, ⟨Nat.zero_le _, by simp⟩, trivial⟩
theorem iDiskNew_ok (n : Int) : CallOK Try.prog 30 [aN n] (ownD (diskNew n).secs (diskNew n).cache) := by
  have cw := within_ok n 0 700
  have ce := empty_ok
  obtain ⟨z, hz⟩ : ∃ z, z = zerosB 64 := ⟨_, rfl⟩
  rw [← hz] at ce
  have cr := fun k hk => repeat_ok z k hk
  obtain ⟨D, hD⟩ : ∃ D, D = diskNew n := ⟨_, rfl⟩
  rw [← hD]
  rw [diskNew, ← hz] at hD
  rw [ownD]
  obtain ⟨M, hM⟩ := mapEx
  try simp only [hM]
  refine go Try.func30 rfl rfl rfl rfl fun pAdd pSub pMul pQuo pRem pAnd pOr pXor pAndNot pShl pShr pNeg pCompl pConv pLt pLe pEq pSlt pSle pSeq pCat pCatOk pSlen pSsub pSat pIadd pIsub pBnot pBeq pImin pImax pLlen pLsub pLapp pLset pLcopy pLenOk pBytes pRep hF Ca hC r hr => ?_
  cbv
  refine callB hC cw (fun h => ?_) (fun h => ?_) <;> try cbv
  · rw [Bool.and_eq_true, decide_eq_true_eq, decide_eq_true_eq] at h
    rw [if_pos h] at hD
    obtain ⟨k, hk⟩ : ∃ k : Nat, n = Int.ofNat k := ⟨n.toNat, by ((try simp only [Int.ofNat_eq_natCast] at *); omega)⟩
    have cr := cr k (by ((try simp only [Int.ofNat_eq_natCast] at *); omega))
    rw [hk] at hD
    rw [show (Int.ofNat k).toNat = k from rfl] at hD
    obtain ⟨L, hL⟩ : ∃ L, L = List.replicate k z := ⟨_, rfl⟩
    rw [← hL] at cr hD
    refine callS hC (by have hh := ce; (try simp only [hM] at hh); exact hh) (fun s hs => ?_)
    cbv
    rw [hs, hk]
    refine callI hC (by have hh := cr; (try simp only [hM] at hh); exact hh) ?_
    cbv
    rw [hD] at hr
    rw [hr]
    simp only [← hM]
    rfl
  · have hn : ¬ (0 ≤ n ∧ n ≤ 700) := by
      rw [Bool.and_eq_false_iff, decide_eq_false_iff_not, decide_eq_false_iff_not] at h; omega
    rw [if_neg hn] at hD
    rw [hD] at hr
    simp only [← hM] at hr
    exact hr.symm
theorem sDiskNew_ok (n : Int) (hn : I64 n) : CallOK Try.prog 29 [aN n] (ownD (diskNew n).secs (diskNew n).cache) := by
  obtain ⟨hn0, hn1⟩ := hn
  obtain ⟨z, hz⟩ : ∃ z, z = zerosB 64 := ⟨_, rfl⟩
  obtain ⟨D, hD⟩ : ∃ D, D = diskNew n := ⟨_, rfl⟩
  rw [← hD]
  rw [diskNew, ← hz] at hD
  have hl : ∀ k, Int.ofNat k = n ∨ (n < 0 ∧ k = 0) → n ≤ 700 → (List.replicate k z).map rowS = D.secs.map rowS ∧ D.cache = [] := fun k h h7 => by
    rcases h with h | ⟨h, h0⟩
    · rw [if_pos ⟨by ((try simp only [Int.ofNat_eq_natCast] at *); omega), h7⟩] at hD
      rw [hD, ← h]
      exact ⟨rfl, rfl⟩
    · rw [if_neg (by omega)] at hD
      rw [hD, h0]
      exact ⟨rfl, rfl⟩
  have hbig : 700 < n → D = ⟨[], []⟩ := fun h => by rw [hD, if_neg (by omega)]
  clear hD
  rw [ownD]
  obtain ⟨M, hM⟩ := mapEx
  try simp only [hM]
  refine go Try.func29 rfl rfl rfl rfl fun pAdd pSub pMul pQuo pRem pAnd pOr pXor pAndNot pShl pShr pNeg pCompl pConv pLt pLe pEq pSlt pSle pSeq pCat pCatOk pSlen pSsub pSat pIadd pIsub pBnot pBeq pImin pImax pLlen pLsub pLapp pLset pLcopy pLenOk pBytes pRep hF Ca hC r hr => ?_
  cbv
  refine brkI (fun h => ?_) (fun h => ?_) <;> try cbv
  · rw [hbig (ltT hF h)] at hr
    simp only [← hM] at hr
    exact hr.symm
  have h := ltF hF h
  refine brT (mkLe hF (by decide)) ?_
  try cbv
  refine brT (mkLe hF (by decide)) ?_
  try cbv
  refine brT (lenOkIs hF (by decide)) ?_
  try cbv
  have er : pRep 64 [Y.sc (Value.int IntKind.u8 0)] = bytesL (List.replicate 64 0) := by
    have : pRep 64 [Y.sc (Value.int IntKind.u8 0)] = List.replicate 64 [Y.sc (Value.int IntKind.u8 0)] := repIs hF 64 _
    rw [this]; simp [bytesL]
  refine ⟨z, ⟨by rw [er, hz]; rfl⟩, ?_⟩
  cbv
  refine loop_u (α := Nat × List (List Y)) (fun k st => (st.n 5 (Int.ofNat k.1)).ob 3001 (.ar 1 k.2)) (fun k => (Int.ofNat k.1 ≤ n ∨ k.1 = 0) ∧ k.2 = (List.replicate k.1 z).map rowS) (fun k => n.toNat - k.1) (0, []) rfl ⟨Or.inr rfl, rfl⟩ (fun K' hK I k hi ih => ?_)
  obtain ⟨k, xs⟩ := k
  obtain ⟨hk, hx⟩ := hi
  dsimp only at hk hx
  have hxl : xs.length = k := by rw [hx, List.length_map, List.length_replicate]
  cbv
  refine brkI (fun h2 => ?_) (fun h2 => ?_) <;> try cbv
  · have h2 := ltT hF h2
    refine brT (lenOkIs hF (by
      rw [show pLlen xs = Int.ofNat k from (llenIs hF _).trans (by rw [hxl]; rfl), show pLlen [[Y.sc (.string z)]] = 1 from (llenIs hF _).trans rfl]
      have e5 : pIadd (Int.ofNat k) 1 = Int.ofNat k + 1 := by
        have : prims.iadd (Int.ofNat k) 1 = Int.ofNat k + 1 := rfl
        rw [hF] at this; exact this
      rw [e5]; ((try simp only [Int.ofNat_eq_natCast] at *); omega))) ?_
    try cbv
    conv => arg 1; cbv
    have e1 : pAdd .i64 (Int.ofNat k) 1 = Int.ofNat (k + 1) := add1Is hF (by ((try simp only [Int.ofNat_eq_natCast] at *); omega))
    have e2 : pLapp xs [[Y.sc (.string z)]] = (List.replicate (k + 1) z).map rowS := by
      have : pLapp xs [[Y.sc (.string z)]] = xs ++ [[Y.sc (.string z)]] := lappIs hF _ _
      rw [this, hx, List.replicate_succ', List.map_append]; rfl
    rw [e1, e2]
    exact ih (k + 1, _) _ ⟨Or.inl (by dsimp only; ((try simp only [Int.ofNat_eq_natCast] at *); omega)), rfl⟩ (by dsimp only; ((try simp only [Int.ofNat_eq_natCast] at *); omega)) rfl
  · have h2 := ltF hF h2
    obtain ⟨a, b⟩ := hl k (by ((try simp only [Int.ofNat_eq_natCast] at *); omega)) h
    refine hK _ _ ?_
    cbv
    simp only [← hM] at hr
    rw [hx, hr, b, ← a]
    rfl
end Go.Proofs.Ytocjbababdlilaa
