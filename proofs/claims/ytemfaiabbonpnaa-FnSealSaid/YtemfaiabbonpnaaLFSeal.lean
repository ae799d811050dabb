/- Functions of the program, each with what it returns, run by the evaluator; the conditions stand in the theorems. -/
import Derived.Test.YtemfaiabbonpnaaLSrcQ
import Derived.Test.YtemfaiabbonpnaaLSrc4
import Derived.Test.YtemfaiabbonpnaaLSealP
import Derived.Test.YtemfaiabbonpnaaV6
namespace Go.Proofs.Ytemfaiabbonpnaa
open Go Go.Proofs.YtemfaiabbonpnaaW Go.Proofs
set_option linter.unusedVariables false
set_option linter.unusedSimpArgs false
set_option maxRecDepth 100000
set_option maxHeartbeats 1600000
/-- A number out of a code. -/
def lwVal (l : List UInt8) (i : Nat) (most : Int) : Int := if most ≤ 1 then 0 else if l.length = 0 then 0 else Int.ofNat (l.getD (i % l.length) 0).toNat % most
theorem lwAt_ok (l : List UInt8) (hl : l.length ≤ 1048576) (i : Nat) (most : Int) (hi : i ≤ 1000) (hm : most ≤ 4611686018427387904) : CallOK Try.prog 8 [.c (.y (.sl 1 (bytesL l))), aN (Int.ofNat i), aN most] (N (lwVal l i most)) := by
  obtain ⟨xs, hx⟩ : ∃ xs, xs = bytesL l := ⟨_, rfl⟩
  obtain ⟨v, hv⟩ : ∃ v, v = lwVal l i most := ⟨_, rfl⟩
  have hxl : xs.length = l.length := by rw [hx, bytesL, List.length_map]
  have hget : ∀ j, j < l.length → xs[j]? = some [Y.sc (.int .u8 (Int.ofNat (l.getD j 0).toNat))] := fun j hj => by
    rw [hx, bytesL, List.getElem?_map, List.getElem?_eq_getElem hj, getD_at hj]; rfl
  have hb : ∀ j, 0 ≤ Int.ofNat (l.getD j 0).toNat ∧ Int.ofNat (l.getD j 0).toNat < 256 := fun j => ⟨Int.natCast_nonneg _, by have := (l.getD j 0).toNat_lt; ((try simp only [Int.ofNat_eq_natCast] at *); omega)⟩
  rw [← hx, ← hv]
  rw [lwVal] at hv
  clear hx
  obtain ⟨M, hM⟩ := mapEx
  try simp only [hM]
  refine go Try.func8 rfl rfl rfl rfl fun pAdd pSub pMul pQuo pRem pAnd pOr pXor pAndNot pShl pShr pNeg pCompl pConv pLt pLe pEq pSlt pSle pSeq pCat pCatOk pSlen pSsub pSat pIadd pIsub pBnot pBeq pImin pImax pLlen pLsub pLapp pLset pLcopy pLenOk pBytes pRep hF Ca hC r hr => ?_
  cbv
  refine brkI (fun h1 => ?_) (fun h1 => ?_) <;> try cbv
  · rw [if_pos (leT hF h1)] at hv; rw [hr, hv]
  have h1 := leF hF h1
  rw [if_neg (show ¬ most ≤ 1 by omega)] at hv
  have el : pLlen xs = Int.ofNat l.length := (llenIs hF xs).trans (by rw [hxl]; rfl)
  refine brkI (fun h2 => ?_) (fun h2 => ?_) <;> try cbv
  · have h2 := eqT hF h2
    rw [el] at h2
    rw [if_pos (Int.ofNat.inj h2)] at hv; rw [hr, hv]
  have h2 := eqF hF h2
  rw [el] at h2
  have hl0 : 0 < l.length := by ((try simp only [Int.ofNat_eq_natCast] at *); omega)
  rw [if_neg (by omega)] at hv
  rw [el]
  refine brF (mkNe hF (by ((try simp only [Int.ofNat_eq_natCast] at *); omega))) ?_
  try cbv
  have er : pRem .i64 (Int.ofNat i) (Int.ofNat l.length) = Int.ofNat (i % l.length) := by
    have : prims.rem .i64 (Int.ofNat i) (Int.ofNat l.length) = Int.ofNat (i % l.length) := rfl
    rw [hF] at this; exact this
  rw [er]
  have hk := Nat.mod_lt i hl0
  obtain ⟨j, hj⟩ : ∃ j, j = i % l.length := ⟨_, rfl⟩
  rw [← hj] at hk hv ⊢
  have g := hget j hk
  have hb := hb j
  obtain ⟨b, hb2⟩ : ∃ b, b = Int.ofNat (l.getD j 0).toNat := ⟨_, rfl⟩
  rw [← hb2] at g hb hv
  refine ⟨_, ⟨Int.natCast_nonneg _, g⟩, ?_⟩
  cbv
  rw [show pConv .i64 b = b from by
    have : prims.conv .i64 b = b := wrap_i64 (by omega) (by omega)
    rw [hF] at this; exact this]
  refine brF (mkNe hF (by omega)) ?_
  try cbv
  rw [show pRem .i64 b most = b % most from by
    have : prims.rem .i64 b most = b % most := Int.tmod_eq_emod_of_nonneg hb.1
    rw [hF] at this; exact this]
  rw [hr, hv]

theorem lwVal_range (l : List UInt8) (i : Nat) {most : Int} (h : 1 ≤ most) : 0 ≤ lwVal l i most ∧ lwVal l i most < most := by
  rw [lwVal]
  split
  · omega
  · split
    · omega
    · exact ⟨Int.emod_nonneg _ (by omega), Int.emod_lt_of_pos _ (by omega)⟩
theorem wrapU8 (n : Nat) (h : n < 256) : IntKind.u8.wrap (n : Int) = Int.ofNat n := by
  unfold IntKind.wrap
  simp only [IntKind.bits, IntKind.signed, Bool.false_and]
  show (n : Int) % 256 = _
  exact Int.emod_eq_of_lt (by omega) (by omega)
theorem xorU8 {a b : Nat} (ha : a < 256) (hb : b < 256) : prims.xor .u8 (Int.ofNat a) (Int.ofNat b) = Int.ofNat (a ^^^ b) := by
  show IntKind.u8.wrap ((BitVec.ofInt 8 (Int.ofNat a) ^^^ BitVec.ofInt 8 (Int.ofNat b)).toNat : Int) = _
  rw [show BitVec.ofInt 8 (Int.ofNat a) = BitVec.ofNat 8 a from BitVec.ofInt_natCast 8 a, show BitVec.ofInt 8 (Int.ofNat b) = BitVec.ofNat 8 b from BitVec.ofInt_natCast 8 b, BitVec.toNat_xor, BitVec.toNat_ofNat, BitVec.toNat_ofNat, Nat.mod_eq_of_lt ha, Nat.mod_eq_of_lt hb]
  exact wrapU8 _ (Nat.xor_lt_two_pow (n := 8) ha hb)
/-- A byte turned is another one. -/
theorem turned_byte (b : UInt8) (w : Int) (h0 : 0 ≤ w) (h1 : w < 255) : ∃ y : UInt8, prims.xor .u8 (b.toNat : Int) (prims.conv .u8 (1 + w)) = (y.toNat : Int) ∧ y ≠ b := by
  obtain ⟨c, hc⟩ : ∃ c : Nat, 1 + w = Int.ofNat c := ⟨(1 + w).toNat, by ((try simp only [Int.ofNat_eq_natCast] at *); omega)⟩
  have c1 : 1 ≤ c ∧ c < 256 := by constructor <;> ((try simp only [Int.ofNat_eq_natCast] at *); omega)
  have hb := b.toNat_lt
  have hx : b.toNat ^^^ c < 256 := Nat.xor_lt_two_pow (n := 8) hb c1.2
  rw [hc, show prims.conv .u8 (Int.ofNat c) = Int.ofNat c from wrapU8 c c1.2, show (b.toNat : Int) = Int.ofNat b.toNat from rfl, xorU8 hb c1.2]
  refine ⟨UInt8.ofNat (b.toNat ^^^ c), ?_, fun e => ?_⟩
  · rw [UInt8.toNat_ofNat', Nat.mod_eq_of_lt hx]; rfl
  · have := congrArg UInt8.toNat e
    rw [UInt8.toNat_ofNat', Nat.mod_eq_of_lt hx] at this
    have h2 : b.toNat ^^^ (b.toNat ^^^ c) = b.toNat ^^^ b.toNat := by rw [this]
    rw [← Nat.xor_assoc, Nat.xor_self, Nat.zero_xor] at h2
    omega
theorem drawCrcMore_q {xs : List (List Y)} (h : IsCode xs) : CallQ Try.prog 10 [.c (.y (.sl 1 xs))] (fun r => ∃ (q : Int) (u : ByteArray), u.size ≤ 8 ∧ r = ⟨.tup [(false, [.y (yN q)]), (false, [.y (yS u)])], []⟩) := by
  have hB := @bytes_q
  have hCrc := sCrc_ok
  obtain ⟨M, hM⟩ := mapEx
  try simp only [hM]
  refine goQ Try.func10 rfl rfl rfl rfl fun pAdd pSub pMul pQuo pRem pAnd pOr pXor pAndNot pShl pShr pNeg pCompl pConv pLt pLe pEq pSlt pSle pSeq pCat pCatOk pSlen pSsub pSat pIadd pIsub pBnot pBeq pImin pImax pLlen pLsub pLapp pLset pLcopy pLenOk pBytes pRep hF Ca hC Q1 hQ => ?_
  cbv
  refine callQ hC (source_q h) ?_
  rintro r ⟨m, z, z0, z1, s0, rfl⟩
  cbv
  refine callQ hC (n_q s0 m z 9 (by decide)) ?_
  rintro r ⟨q, a1, m1, h1, h2, s1, rfl⟩
  cbv
  refine callQ hC (bytes_q s1 m1 z q h1 (by rcases h2 with h2 | h2 <;> omega)) ?_
  rintro r ⟨t, a2, m2, ht, s2, rfl⟩
  cbv
  have ht8 : t.size ≤ 8 := by rcases h2 with h2 | h2 <;> ((try simp only [Int.ofNat_eq_natCast] at *); omega)
  refine callQ hC (one_q s2 m2 z 5 (by decide)) ?_
  rintro r ⟨b, a3, m3, s3, rfl⟩
  cbv
  cases b <;> try cbv
  · refine callQ hC (n_q s3 m3 z 9 (by decide)) ?_
    rintro r ⟨q4, a4, m4, h4, h5, s4, rfl⟩
    cbv
    refine callQ hC (bytes_q s4 m4 z q4 h4 (by rcases h5 with h2 | h2 <;> omega)) ?_
    rintro r ⟨t5, a5, m5, ht5, s5, rfl⟩
    cbv
    refine callN hC (hCrc t5 (by rw [maxLen_is]; rcases h5 with h2 | h2 <;> ((try simp only [Int.ofNat_eq_natCast] at *); omega))) (fun c hc => ?_)
    clear hc
    cbv
    exact hQ _ ⟨c, t, ht8, rfl⟩
  · refine callQ hC (edge_q s3 m3 z) ?_
    rintro r ⟨e, a4, m4, he, s4, rfl⟩
    cbv
    exact hQ _ ⟨e, t, ht8, rfl⟩
end Go.Proofs.Ytemfaiabbonpnaa
