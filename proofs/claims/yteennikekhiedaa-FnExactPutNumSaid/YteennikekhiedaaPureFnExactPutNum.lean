/- The program's PutNum and the reference's tell the same bytes of every number; no condition. -/
import Derived.Test.YteennikekhiedaaPFnExactPutNumx1
namespace Go.Proofs.Yteennikekhiedaa.Pure
open Go.RowKit Go.Proofs.Yteennikekhiedaa.PFnExactPutNum Go.Proofs.YteennikekhiedaaW.PrintWords Go.Proofs.YteennikekhiedaaW.PrintLast

theorem pn_wu64 (n : Int) : IntKind.u64.wrap n = n % 18446744073709551616 := by simp [IntKind.wrap, IntKind.bits, IntKind.signed]

theorem pn_or128 (y : Int) (h0 : 0 ≤ y) (h1 : y < 256) : Go.bits .or .u8 y 128 = y % 128 + 128 := by
  obtain ⟨n, rfl⟩ := Int.eq_ofNat_of_zero_le h0
  have key : ∀ m : Fin 256, Go.bits .or .u8 ((m.val : Nat) : Int) 128 = ((m.val : Nat) : Int) % 128 + 128 := by decide +kernel
  exact key ⟨n, by omega⟩

theorem pn_xor0 (x : Int) (h0 : 0 ≤ x) (h1 : x < 18446744073709551616) : Go.bits .xor .u64 x 0 = x := by
  obtain ⟨n, rfl⟩ := Int.eq_ofNat_of_zero_le h0
  have e : BitVec.ofInt 64 0 = 0#64 := by decide
  show IntKind.u64.wrap (((BitVec.ofInt 64 (n : Int) ^^^ BitVec.ofInt 64 0 : BitVec 64).toNat : Nat) : Int) = _
  rw [e, BitVec.ofInt_natCast, BitVec.xor_zero, BitVec.toNat_ofNat, pn_wu64]
  omega

theorem pn_xor1 (x : Int) (h0 : 0 ≤ x) (h1 : x < 18446744073709551616) : Go.bits .xor .u64 x 18446744073709551615 = 18446744073709551615 - x := by
  obtain ⟨n, rfl⟩ := Int.eq_ofNat_of_zero_le h0
  have e : BitVec.ofInt 64 18446744073709551615 = BitVec.allOnes 64 := by decide
  show IntKind.u64.wrap (((BitVec.ofInt 64 (n : Int) ^^^ BitVec.ofInt 64 18446744073709551615 : BitVec 64).toNat : Nat) : Int) = _
  rw [e, BitVec.ofInt_natCast, BitVec.xor_allOnes, BitVec.toNat_not, BitVec.toNat_ofNat, pn_wu64]
  omega

/-- The number that is written: twice n, or twice -n less 1. -/
def pnU (a : Int) : Int := if a < 0 then -2 * a - 1 else 2 * a

theorem pn_fold (a : Int) (h0 : -9223372036854775808 ≤ a) (h1 : a ≤ 9223372036854775807) : spec_l01Fold.f a = some (pnU a) := by
  unfold spec_l01Fold.f pnU
  by_cases h : a < 0
  · rw [if_pos h, if_pos h]
    simp only [pn_wu64, wrap64]
    congr 1; omega
  · rw [if_neg h, if_neg h]
    simp only [pn_wu64]
    congr 1; omega

theorem pn_impl (a : Int) (h0 : -9223372036854775808 ≤ a) (h1 : a ≤ 9223372036854775807) :
    Go.bits .xor .u64 (IntKind.u64.wrap ((IntKind.u64.wrap (a)) * 2)) (IntKind.u64.wrap (a / 9223372036854775808)) = pnU a := by
  unfold pnU
  by_cases h : a < 0
  · rw [if_pos h]
    have e : IntKind.u64.wrap (a / 9223372036854775808) = 18446744073709551615 := by rw [pn_wu64]; omega
    rw [e, pn_xor1 _ (by rw [pn_wu64]; omega) (by rw [pn_wu64]; omega)]
    simp only [pn_wu64]; omega
  · rw [if_neg h]
    have e : IntKind.u64.wrap (a / 9223372036854775808) = 0 := by rw [pn_wu64]; omega
    rw [e, pn_xor0 _ (by rw [pn_wu64]; omega) (by rw [pn_wu64]; omega)]
    simp only [pn_wu64]; omega

/-- Both loops end behind at most d + 1 rounds, where u is below 128 to the power of d + 1, and tell the same text of at most that many bytes more. -/
theorem pn_loops (d : Nat) : ∀ (k : Nat) (u : Int) (acc : List Int), 0 ≤ u → u < 18446744073709551616 → u < 128 ^ (d + 1) → acc.length + d < 1000 → d < k →
    ∃ r : ByteArray, spec_PutNum.l0 k u acc = some r ∧ impl_PutNum.l0 k u acc = some r ∧ ∃ l, r = strOfNums l ∧ l.length ≤ acc.length + d + 1 := by
  induction d with
  | zero =>
    intro k u acc h0 _ h1 h2 hk
    obtain ⟨k, rfl⟩ : ∃ m, k = m + 1 := ⟨k - 1, by omega⟩
    have hl : acc.length < 140737488355328 := by omega
    have h : ¬ u ≥ 128 := by simp at h1; omega
    simp only [spec_PutNum.l0, impl_PutNum.l0, if_neg h, if_pos hl]
    exact ⟨_, rfl, rfl, _, rfl, by simp⟩
  | succ d ih =>
    intro k u acc h0 hm h1 h2 hk
    obtain ⟨k, rfl⟩ : ∃ m, k = m + 1 := ⟨k - 1, by omega⟩
    simp only [spec_PutNum.l0, impl_PutNum.l0]
    have hl : acc.length < 140737488355328 := by omega
    by_cases h : u ≥ 128
    · simp only [if_pos h, if_pos hl]
      have e1 : IntKind.u64.wrap (Int.tdiv u 128) = u / 128 := by rw [pn_wu64, Int.tdiv_eq_ediv_of_nonneg h0]; omega
      have e2 : IntKind.u64.wrap (Int.tmod u 128 + 128) % 256 = Go.bits .or .u8 (u % 256) 128 := by
        rw [pn_or128 _ (by omega) (by omega), pn_wu64, Int.tmod_eq_emod_of_nonneg h0]; omega
      rw [e1, e2]
      obtain ⟨r, a, b, l, hl1, hl2⟩ := ih k (u / 128) (acc ++ [Go.bits .or .u8 (u % 256) 128]) (by omega) (by omega) (by rw [Int.pow_succ] at h1; omega) (by simp; omega) (by omega)
      exact ⟨r, a, b, l, hl1, by simp at hl2; omega⟩
    · simp only [if_neg h, if_pos hl]
      exact ⟨_, rfl, rfl, _, rfl, by simp⟩

theorem pn_pow : (128 : Int) ^ (9 + 1) = 1180591620717411303424 := by decide

theorem pn_both (k : Nat) (hk : 10 ≤ k) (a : Int) (h0 : -9223372036854775808 ≤ a) (h1 : a ≤ 9223372036854775807) :
    ∃ r : ByteArray, spec_PutNum.f k a = some r ∧ impl_PutNum.f k a = some r ∧ ∃ l : List Int, r = strOfNums l ∧ l.length ≤ 10 := by
  have hb : 0 ≤ pnU a ∧ pnU a < 18446744073709551616 := by unfold pnU; split <;> omega
  have hp : pnU a < 128 ^ (9 + 1) := by rw [pn_pow]; omega
  obtain ⟨r, e1, e2, l, e3, e4⟩ := pn_loops 9 k (pnU a) [] hb.1 hb.2 hp (by simp) (by omega)
  refine ⟨r, ?_, ?_, l, e3, by simpa using e4⟩
  · unfold spec_PutNum.f; rw [pn_fold a h0 h1]; exact e1
  · unfold impl_PutNum.f; rw [pn_impl a h0 h1]; exact e2

theorem FnExactPutNum : laws_FnExactPutNum.Pure := by
  intro a ha
  have hb : -9223372036854775808 ≤ a ∧ a ≤ 9223372036854775807 := by
    simpa [Lit.wf, IntKind.min, IntKind.max, IntKind.signed, IntKind.bits] using ha
  obtain ⟨r, e1, e2, _⟩ := pn_both 10 (by omega) a hb.1 hb.2
  refine ⟨10, ?_⟩
  unfold laws_FnExactPutNum.f
  rw [e1, e2]; simp

end Go.Proofs.Yteennikekhiedaa.Pure
