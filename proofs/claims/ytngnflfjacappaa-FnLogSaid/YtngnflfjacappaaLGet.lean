/- Functions of the program, each with what it returns, run by the evaluator; the conditions stand in the theorems. -/
import Derived.Test.YtngnflfjacappaaLNum
namespace Go.Proofs.Ytngnflfjacappaa
open Go Go.Proofs.YtngnflfjacappaaW Go.Proofs
set_option linter.unusedVariables false
set_option linter.unusedSimpArgs false
set_option maxRecDepth 100000
set_option maxHeartbeats 8000000
theorem and127 (y : Int) (h0 : 0 ≤ y) (h1 : y < 256) : bitsW .and .u8 y 127 = y % 128 := by
  obtain ⟨n, rfl⟩ := Int.eq_ofNat_of_zero_le h0
  have key : ∀ m : Fin 256, bitsW .and .u8 ((m.val : Nat) : Int) 127 = ((m.val : Nat) : Int) % 128 := by decide +kernel
  exact key ⟨n, by omega⟩
theorem or_add (k u c : Nat) (hu : u < 2 ^ k) (h : c * 2 ^ k + u < 18446744073709551616) : bitsW .or .u64 (u : Int) ((c * 2 ^ k : Nat) : Int) = ((u + c * 2 ^ k : Nat) : Int) := by
  have hp : 0 < 2 ^ k := Nat.two_pow_pos k
  show IntKind.u64.wrap (((BitVec.ofInt 64 (u : Int) ||| BitVec.ofInt 64 ((c * 2 ^ k : Nat) : Int) : BitVec 64).toNat : Nat) : Int) = _
  rw [BitVec.ofInt_natCast, BitVec.ofInt_natCast, BitVec.toNat_or, BitVec.toNat_ofNat, BitVec.toNat_ofNat, Nat.mod_eq_of_lt (by omega), Nat.mod_eq_of_lt (by omega), wrap_u64]
  have e := Nat.two_pow_add_eq_or_of_lt hu c
  rw [Nat.or_comm, Nat.mul_comm c, ← e]
  rw [Nat.mul_comm c] at h
  omega
theorem xor_i0 (x : Int) (h0 : 0 ≤ x) (h1 : x < 9223372036854775808) : bitsW .xor .i64 x 0 = x := by
  obtain ⟨n, rfl⟩ := Int.eq_ofNat_of_zero_le h0
  have e : BitVec.ofInt 64 0 = 0#64 := by decide
  show IntKind.i64.wrap (((BitVec.ofInt 64 (n : Int) ^^^ BitVec.ofInt 64 0 : BitVec 64).toNat : Nat) : Int) = _
  rw [e, BitVec.ofInt_natCast, BitVec.xor_zero, BitVec.toNat_ofNat, Nat.mod_eq_of_lt (by omega)]
  exact wrap_i64 (by omega) (by omega)
theorem wrap_i64_big {n : Int} (h1 : 9223372036854775808 ≤ n) (h2 : n < 18446744073709551616) : IntKind.i64.wrap n = n - 18446744073709551616 := by
  have e : IntKind.i64.wrap n = if n % 18446744073709551616 ≥ 9223372036854775808 then n % 18446744073709551616 - 18446744073709551616 else n % 18446744073709551616 := by
    unfold IntKind.wrap
    simp [IntKind.bits, IntKind.signed]
  rw [e]
  split <;> omega
theorem xor_i1 (x : Int) (h0 : 0 ≤ x) (h1 : x < 9223372036854775808) : bitsW .xor .i64 x (-1) = -x - 1 := by
  obtain ⟨n, rfl⟩ := Int.eq_ofNat_of_zero_le h0
  have e : BitVec.ofInt 64 (-1) = BitVec.allOnes 64 := by decide
  show IntKind.i64.wrap (((BitVec.ofInt 64 (n : Int) ^^^ BitVec.ofInt 64 (-1) : BitVec 64).toNat : Nat) : Int) = _
  rw [e, BitVec.ofInt_natCast, BitVec.xor_allOnes, BitVec.toNat_not, BitVec.toNat_ofNat, Nat.mod_eq_of_lt (by omega)]
  rw [wrap_i64_big (by omega) (by omega)]
  omega
theorem and1 (u : Nat) (h : u < 18446744073709551616) : bitsW .and .u64 (u : Int) 1 = (u : Int) % 2 := by
  have e : BitVec.ofInt 64 1 = 1#64 := by decide
  show IntKind.u64.wrap (((BitVec.ofInt 64 (u : Int) &&& BitVec.ofInt 64 1 : BitVec 64).toNat : Nat) : Int) = _
  rw [e, BitVec.ofInt_natCast, BitVec.toNat_and, BitVec.toNat_ofNat, Nat.mod_eq_of_lt (by omega)]
  have : (1#64 : BitVec 64).toNat = 1 := rfl
  rw [this, Nat.and_one_is_mod, wrap_u64]
  omega
def unf (u : Int) : Int := if u % 2 = 1 then -(u / 2) - 1 else u / 2
def at1 (s : ByteArray) (p : Int) (i : Nat) : Int := prims.sat s (p + Int.ofNat i)
/-- Reading a number: k rounds are left, i are done. -/
def numGo (s : ByteArray) (p : Int) : Nat → Int → Nat → Int × Int × Int
  | 0, _, _ => (0, 0, 3)
  | k + 1, u, i =>
    if Int.ofNat s.size - Int.ofNat i ≤ p then (0, 0, 4)
    else if i = 9 ∧ 1 < at1 s p i then (0, 0, 3)
    else if at1 s p i < 128 then (if at1 s p i = 0 ∧ 0 < i then (0, 0, 3) else (unf (u + at1 s p i % 128 * 2 ^ (7 * i)), p + Int.ofNat i + 1, 0))
    else numGo s p k (u + at1 s p i % 128 * 2 ^ (7 * i)) (i + 1)
def numOf (s : ByteArray) (p : Int) : Int × Int × Int := if p < 0 then (0, 0, 1) else numGo s p 10 0 0
def getNum (s : ByteArray) (p : Int) : Int × Int × Int := if tooLong s then (0, 0, 2) else numOf s p
abbrev NO (r : Int × Int × Int) : Res := ⟨.agg [.y (yN r.1), .y (yN r.2.1), .y (yN r.2.2)], []⟩
theorem retNO {q v : Int × Int × Int} {r : Res} (hr : r = NO q) (h : q = v) : NO v = r := by rw [hr, h]
theorem sat_range (s : ByteArray) (i : Int) : 0 ≤ prims.sat s i ∧ prims.sat s i < 256 := by
  show 0 ≤ ((s[i.toNat]?).map fun b => (b.toNat : Int)).getD 0 ∧ ((s[i.toNat]?).map fun b => (b.toNat : Int)).getD 0 < 256
  cases s[i.toNat]? with
  | none => simp
  | some b => have := b.toNat_lt; simp; omega
theorem num_step {i : Nat} {u c : Int} (hi : i < 10) (h0 : 0 ≤ u) (h1 : u < 2 ^ (7 * i)) (c0 : 0 ≤ c) (c1 : c < 256) (hn : ¬ (i = 9 ∧ 1 < c)) :
    prims.add .u64 u (prims.shl .u64 (c % 128) (Int.ofNat (7 * i))) = u + c % 128 * 2 ^ (7 * i) ∧ 0 ≤ u + c % 128 * 2 ^ (7 * i) ∧ u + c % 128 * 2 ^ (7 * i) < 2 ^ (7 * (i + 1)) ∧ u + c % 128 * 2 ^ (7 * i) < 18446744073709551616 := by
  have e : prims.add .u64 u (prims.shl .u64 (c % 128) (Int.ofNat (7 * i))) = IntKind.u64.wrap (u + IntKind.u64.wrap (c % 128 * 2 ^ min (7 * i) 64)) := rfl
  rw [e, wrap_u64, wrap_u64, Nat.min_eq_left (by omega)]
  have : i = 0 ∨ i = 1 ∨ i = 2 ∨ i = 3 ∨ i = 4 ∨ i = 5 ∨ i = 6 ∨ i = 7 ∨ i = 8 ∨ i = 9 := by omega
  rcases this with rfl | rfl | rfl | rfl | rfl | rfl | rfl | rfl | rfl | rfl <;> simp only [Nat.reduceMul, Nat.reduceAdd, Int.reducePow, Nat.zero_add, Nat.mul_zero, Nat.mul_one] at h1 ⊢ <;> omega
theorem numGo_short {s : ByteArray} {p u : Int} {k i : Nat} (h : Int.ofNat s.size - Int.ofNat i ≤ p) : numGo s p (k + 1) u i = (0, 0, 4) := by rw [numGo, if_pos h]
theorem numGo_nine {s : ByteArray} {p u : Int} {k i : Nat} (h : ¬ Int.ofNat s.size - Int.ofNat i ≤ p) (h2 : i = 9 ∧ 1 < at1 s p i) : numGo s p (k + 1) u i = (0, 0, 3) := by rw [numGo, if_neg h, if_pos h2]
theorem numGo_nil {s : ByteArray} {p u : Int} {k i : Nat} (h : ¬ Int.ofNat s.size - Int.ofNat i ≤ p) (h2 : ¬ (i = 9 ∧ 1 < at1 s p i)) (h3 : at1 s p i = 0 ∧ 0 < i) : numGo s p (k + 1) u i = (0, 0, 3) := by rw [numGo, if_neg h, if_neg h2, if_pos (by omega), if_pos h3]
theorem numGo_end {s : ByteArray} {p u : Int} {k i : Nat} (h : ¬ Int.ofNat s.size - Int.ofNat i ≤ p) (h2 : ¬ (i = 9 ∧ 1 < at1 s p i)) (h4 : at1 s p i < 128) (h3 : ¬ (at1 s p i = 0 ∧ 0 < i)) : numGo s p (k + 1) u i = (unf (u + at1 s p i % 128 * 2 ^ (7 * i)), p + Int.ofNat i + 1, 0) := by rw [numGo, if_neg h, if_neg h2, if_pos h4, if_neg h3]
theorem numGo_more {s : ByteArray} {p u : Int} {k i : Nat} (h : ¬ Int.ofNat s.size - Int.ofNat i ≤ p) (h2 : ¬ (i = 9 ∧ 1 < at1 s p i)) (h4 : ¬ at1 s p i < 128) : numGo s p (k + 1) u i = numGo s p k (u + at1 s p i % 128 * 2 ^ (7 * i)) (i + 1) := by rw [numGo, if_neg h, if_neg h2, if_neg h4]
/-- What is put together by impl: the same. -/
theorem num_or {i : Nat} {u c : Int} (hi : i < 10) (h0 : 0 ≤ u) (h1 : u < 2 ^ (7 * i)) (c0 : 0 ≤ c) (c1 : c < 256) (hn : ¬ (i = 9 ∧ 1 < c)) :
    prims.or .u64 u (prims.shl .u64 (prims.conv .u64 (prims.and .u8 c 127)) (Int.ofNat (7 * i))) = u + c % 128 * 2 ^ (7 * i) := by
  have e0 : prims.and .u8 c 127 = c % 128 := and127 c c0 c1
  have e1 : prims.conv .u64 (c % 128) = c % 128 := (wrap_u64 _).trans (by omega)
  have st := num_step hi h0 h1 c0 c1 hn
  obtain ⟨n, rfl⟩ := Int.eq_ofNat_of_zero_le h0
  obtain ⟨m, hm⟩ := Int.eq_ofNat_of_zero_le (show 0 ≤ c % 128 by omega)
  have hp : (2 : Int) ^ (7 * i) = ((2 ^ (7 * i) : Nat) : Int) := by rw [Int.natCast_pow]; rfl
  have e2 : prims.shl .u64 (c % 128) (Int.ofNat (7 * i)) = ((m * 2 ^ (7 * i) : Nat) : Int) := by
    have e : prims.shl .u64 (c % 128) (Int.ofNat (7 * i)) = IntKind.u64.wrap (c % 128 * 2 ^ min (7 * i) 64) := rfl
    rw [e, wrap_u64, Nat.min_eq_left (by omega), hm, hp, ← Int.natCast_mul]
    refine Int.emod_eq_of_lt (Int.natCast_nonneg _) ?_
    have h4 := st.2.2.2
    rw [hm, hp, ← Int.natCast_mul] at h4
    omega
  rw [e0, e1, e2]
  have h4 := st.2.2.2
  rw [hm, hp, ← Int.natCast_mul] at h4 ⊢
  rw [hp] at h1
  have := or_add (7 * i) n m (by omega) (by omega)
  show bitsW .or .u64 _ _ = _
  rw [this]; omega
theorem num_sign (u : Int) (h0 : 0 ≤ u) (h1 : u < 18446744073709551616) :
    prims.xor .i64 (prims.conv .i64 (prims.shr .u64 u 1)) (prims.neg .i64 (prims.conv .i64 (prims.and .u64 u 1))) = unf u := by
  obtain ⟨n, rfl⟩ := Int.eq_ofNat_of_zero_le h0
  have e1 : prims.shr .u64 (n : Int) 1 = (n : Int) / 2 := by
    show Int.fdiv (n : Int) (2 ^ min (1 : Int).toNat 64) = _
    rw [Int.fdiv_eq_ediv_of_nonneg _ (by decide)]; rfl
  have e2 : prims.conv .i64 ((n : Int) / 2) = (n : Int) / 2 := wrap_i64 (by omega) (by omega)
  have e3 : prims.and .u64 (n : Int) 1 = (n : Int) % 2 := and1 n (by omega)
  have e4 : prims.conv .i64 ((n : Int) % 2) = (n : Int) % 2 := wrap_i64 (by omega) (by omega)
  have e5 : prims.neg .i64 ((n : Int) % 2) = -((n : Int) % 2) := (wrap_i64 (n := 0 - (n : Int) % 2) (by omega) (by omega)).trans (by omega)
  rw [e1, e2, e3, e4, e5, unf]
  by_cases h : (n : Int) % 2 = 1
  · rw [if_pos h, h]; exact xor_i1 _ (by omega) (by omega)
  · rw [if_neg h, show (n : Int) % 2 = 0 by omega]; exact xor_i0 _ (by omega) (by omega)
theorem num_ok (s : ByteArray) (p : Int) (hl : s.size ≤ maxLen) (hp : I64 p) : CallOK Try.prog 84 [aS s, aN p] (NO (numOf s p)) := by
  rw [maxLen_is] at hl
  obtain ⟨hp1, hp2⟩ := hp
  obtain ⟨q, hq⟩ : ∃ q, q = numOf s p := ⟨_, rfl⟩
  rw [← hq]
  obtain ⟨M, hM⟩ := mapEx
  try simp only [hM]
  refine go Try.func84 rfl rfl rfl rfl fun pAdd pSub pMul pQuo pRem pAnd pOr pXor pAndNot pShl pShr pNeg pCompl pConv pLt pLe pEq pSlt pSle pSeq pCat pCatOk pSlen pSsub pSat pIadd pIsub pBnot pBeq pImin pImax pLlen pLsub pLapp pLset pLcopy pLenOk pBytes pRep hF Ca hC r hr => ?_
  cbv
  refine brkI (fun h => ?_) (fun h => ?_) <;> try cbv
  · exact retNO hr (hq.trans (by rw [numOf, if_pos (ltT hF h)]))
  · have h0 := ltF hF h
    have hq' : q = numGo s p 10 0 0 := hq.trans (by rw [numOf, if_neg (by omega)])
    have el : pSlen s = Int.ofNat s.size := slenIs hF s
    refine loop_u (α := Nat × Int) (fun a st => (st.sc 5 (.int .u64 a.2)).n 6 (Int.ofNat a.1))
      (fun a => a.1 ≤ 10 ∧ 0 ≤ a.2 ∧ a.2 < 2 ^ (7 * a.1) ∧ q = numGo s p (10 - a.1) a.2 a.1) (fun a => 10 - a.1) (0, 0) rfl ⟨by omega, by decide, by decide, hq'⟩ (fun K' hK I a hi ih => ?_)
    obtain ⟨i, u⟩ := a
    obtain ⟨hi, hu0, hu1, hqi⟩ := hi
    dsimp only at hi hu0 hu1 hqi
    cbv
    refine brkI (fun h2 => ?_) (fun h2 => ?_) <;> try cbv
    · have hi9 : i < 10 := by have := ltT hF h2; ((try simp only [Int.ofNat_eq_natCast] at *); omega)
      obtain ⟨k, hk⟩ : ∃ k, 10 - i = k + 1 := ⟨10 - i - 1, by omega⟩
      rw [hk] at hqi
      have eS : pSub .i64 (pSlen s) (Int.ofNat i) = Int.ofNat s.size - Int.ofNat i := by rw [el]; exact subIs hF (by ((try simp only [Int.ofNat_eq_natCast] at *); omega)) (by ((try simp only [Int.ofNat_eq_natCast] at *); omega))
      refine brkI (fun h3 => ?_) (fun h3 => ?_) <;> try cbv
      · have h3 := leT hF h3
        rw [eS] at h3
        refine hK _ _ ?_
        cbv
        exact retNO hr (hqi.trans (numGo_short h3))
      · have h3 := leF hF h3
        rw [eS] at h3
        have h3' : ¬ Int.ofNat s.size - Int.ofNat i ≤ p := by omega
        have eA : pAdd .i64 p (Int.ofNat i) = p + Int.ofNat i := addIs hF (by ((try simp only [Int.ofNat_eq_natCast] at *); omega)) (by ((try simp only [Int.ofNat_eq_natCast] at *); omega))
        obtain ⟨pi, hpi⟩ : ∃ z, z = pAdd .i64 p (Int.ofNat i) := ⟨_, rfl⟩
        have epi : pi = p + Int.ofNat i := hpi.trans eA
        rw [← hpi]
        refine brT (mkLe hF (by ((try simp only [Int.ofNat_eq_natCast] at *); omega))) (brT (mkLt hF (by rw [el]; ((try simp only [Int.ofNat_eq_natCast] at *); omega))) ?_)
        obtain ⟨c, hc⟩ : ∃ c, c = pSat s pi := ⟨_, rfl⟩
        have hc' : at1 s p i = c := by rw [at1, hc, ← epi, hF]
        have hcr := sat_range s (p + Int.ofNat i)
        rw [show prims.sat s (p + Int.ofNat i) = c from hc'] at hcr
        rw [← hc]
        have em : pMul .i64 7 (Int.ofNat i) = Int.ofNat (7 * i) := (mulIs hF (by ((try simp only [Int.ofNat_eq_natCast] at *); omega)) (by ((try simp only [Int.ofNat_eq_natCast] at *); omega))).trans (by ((try simp only [Int.ofNat_eq_natCast] at *); omega))
        rw [em]
        obtain ⟨z, hz⟩ : ∃ z, z = pOr .u64 u (pShl .u64 (pConv .u64 (pAnd .u8 c 127)) (Int.ofNat (7 * i))) := ⟨_, rfl⟩
        have hz' : ¬ (i = 9 ∧ 1 < c) → z = u + c % 128 * 2 ^ (7 * i) := fun hn => by
          rw [hz]
          have := num_or hi9 hu0 hu1 hcr.1 hcr.2 hn
          rw [hF] at this
          exact this
        have hst : ¬ (i = 9 ∧ 1 < c) → 0 ≤ z ∧ z < 2 ^ (7 * (i + 1)) ∧ z < 18446744073709551616 := fun hn => by
          rw [hz' hn]
          exact (num_step hi9 hu0 hu1 hcr.1 hcr.2 hn).2
        refine brF (mkNlt hF (by ((try simp only [Int.ofNat_eq_natCast] at *); omega))) ?_
        rw [← hz]
        have e1 : pAdd .i64 (Int.ofNat i) 1 = Int.ofNat (i + 1) := add1Is hF (by omega)
        have syn : i = 9 ∧ 1 < c → q = (0, 0, 3) := fun h => hqi.trans (numGo_nine h3' (by rw [hc']; exact h))
        have fine : ¬ (i = 9 ∧ 1 < c) → q = if c < 128 then (if c = 0 ∧ 0 < i then (0, 0, 3) else (unf z, p + Int.ofNat i + 1, 0)) else numGo s p k z (i + 1) := fun h => by
          rw [hqi, numGo, if_neg h3', hc', if_neg h, hz' h]
        clear hqi hz hz'
        have more : ¬ (i = 9 ∧ 1 < c) → 128 ≤ c → I ⟨[(0, .c (.y (.sc (.string s)))), (1, .c (.y (.sc (.int .i64 p)))), (4, .c (.pb 4000 0)), (5, .c (.y (.sc (.int .u64 z)))), (6, .c (.y (.sc (.int .i64 (Int.ofNat (i + 1))))))], [(4000, .bx [.y (yN 0), .y (yN 0), .y (yN 0)])]⟩ := fun h hc => by
          have f := fine h
          rw [if_neg (by omega)] at f
          refine ih (i + 1, z) _ ⟨hi9, (hst h).1, (hst h).2.1, ?_⟩ (by dsimp only; omega) rfl
          rw [f]; congr 1; omega
        have nil : ¬ (i = 9 ∧ 1 < c) → c = 0 → 0 < i → q = (0, 0, 3) := fun h h1 h2 => by rw [fine h, if_pos (by omega), if_pos ⟨h1, h2⟩]
        have full : ¬ (i = 9 ∧ 1 < c) → c < 128 → ¬ (c = 0 ∧ 0 < i) → q = (unf z, p + Int.ofNat i + 1, 0) := fun h h1 h2 => by rw [fine h, if_pos h1, if_neg h2]
        have sg : ¬ (i = 9 ∧ 1 < c) → pXor .i64 (pConv .i64 (pShr .u64 z 1)) (pNeg .i64 (pConv .i64 (pAnd .u64 z 1))) = unf z := fun h => by
          have := num_sign z (hst h).1 (hst h).2.2
          rw [hF] at this
          exact this
        have eB : pAdd .i64 (pi) 1 = p + Int.ofNat i + 1 := by rw [epi]; exact addIs hF (by ((try simp only [Int.ofNat_eq_natCast] at *); omega)) (by ((try simp only [Int.ofNat_eq_natCast] at *); omega))
        have tail : ¬ (i = 9 ∧ 1 < c) → c < 128 → ¬ (c = 0 ∧ 0 < i) → NO (pXor .i64 (pConv .i64 (pShr .u64 z 1)) (pNeg .i64 (pConv .i64 (pAnd .u64 z 1))), pAdd .i64 pi 1, 0) = r := fun h h1 h2 => retNO hr (by rw [full h h1 h2, sg h, eB])
        repeat' (refine brkI (fun h => ?_) (fun h => ?_) <;> try cbv)
        all_goals first
          | (refine hK _ _ ?_; cbv; first | (refine retNO (v := (0, 0, 3)) hr ?_) | (rw [← hpi]; refine tail ?_ ?_ ?_))
          | (conv => arg 1; cbv
             rw [e1]
             refine more ?_ ?_)
          | skip
        all_goals
          clear hK ih hC more tail sg hst fine hr full
          have lD : ∀ a b, pLt a b = decide (a < b) := ltD hF
          have eD : ∀ a b, pLe a b = decide (a ≤ b) := leD hF
          have qD : ∀ a b, pEq a b = decide (a = b) := eqD hF
          have sD : ∀ a b, pSeq a b = decide (a = b) := seqD hF
          simp only [lD, eD, qD, decide_eq_true_eq, decide_eq_false_iff_not, Int.ofNat_eq_natCast] at *
          clear lD eD qD sD hF
          first
            | omega
            | (exact syn (by omega))
            | (exact nil (by omega) (by omega) (by omega))
    · have : i = 10 := by have := ltF hF h2; ((try simp only [Int.ofNat_eq_natCast] at *); omega)
      subst this
      refine hK _ _ ?_
      cbv
      exact retNO (v := (0, 0, 3)) hr (hqi.trans rfl)
end Go.Proofs.Ytngnflfjacappaa
