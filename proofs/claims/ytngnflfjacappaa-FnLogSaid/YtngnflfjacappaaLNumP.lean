/- Functions of the program, each with what it returns, run by the evaluator; the conditions stand in the theorems. -/
import Derived.Test.YtngnflfjacappaaLGet2
namespace Go.Proofs.Ytngnflfjacappaa
open Go Go.Proofs.YtngnflfjacappaaW Go.Proofs
set_option linter.unusedVariables false
set_option linter.unusedSimpArgs false
set_option maxRecDepth 100000
set_option maxHeartbeats 8000000
/-! What is written is read. -/
theorem sat_nat (s : ByteArray) (i : Nat) : prims.sat s (Int.ofNat i) = Int.ofNat ((s.data.toList[i]?).getD 0).toNat := by
  show ((s[(Int.ofNat i).toNat]?).map fun b => (b.toNat : Int)).getD 0 = _
  rw [show (Int.ofNat i).toNat = i from rfl]
  have e : s[i]? = s.data.toList[i]? := by
    rw [Array.getElem?_toList]
    rfl
  rw [e]
  cases s.data.toList[i]? <;> rfl
theorem at1_nat (s : ByteArray) (p i : Nat) : at1 s (Int.ofNat p) i = Int.ofNat ((s.data.toList[p + i]?).getD 0).toNat := by
  rw [at1, show Int.ofNat p + Int.ofNat i = Int.ofNat (p + i) from rfl, sat_nat]
theorem at1_of {s : ByteArray} {p i : Nat} {pre post : List UInt8} {b : UInt8} (hs : s.data.toList = pre ++ b :: post) (hp : pre.length = p + i) : at1 s (Int.ofNat p) i = Int.ofNat b.toNat := by
  rw [at1_nat, hs, List.getElem?_append_right (by omega), show p + i - pre.length = 0 by omega]; rfl
theorem putL_pos (u : Nat) : 1 ≤ (putL u).length := by
  by_cases h : u < 128
  · rw [putL_lt h]; exact Nat.le_refl _
  · rw [putL_ge (by omega), List.length_cons]; omega
theorem u8 {n : Nat} (h : n < 256) : (UInt8.ofNat n).toNat = n := by simp [UInt8.toNat_ofNat']; omega
/-- A number is read out of its bytes. -/
theorem numGo_put (s : ByteArray) (p : Nat) : ∀ (k : Nat) (U : Nat) (u : Nat) (i : Nat) (pre post : List UInt8), s.data.toList = pre ++ putL U ++ post → pre.length = p + i → i + k = 10 →
    i + (putL U).length ≤ 10 → u + U * 2 ^ (7 * i) < 18446744073709551616 → (0 < i → 0 < U) →
    numGo s (Int.ofNat p) k (Int.ofNat u) i = (unf (Int.ofNat (u + U * 2 ^ (7 * i))), Int.ofNat (p + i + (putL U).length), 0)
  | 0, U, u, i, pre, post, _, _, hk, hl, _, _ => by have := putL_pos U; omega
  | k + 1, U, u, i, pre, post, hs, hp, hk, hl, hv, h0 => by
    have hsz : s.size = pre.length + (putL U).length + post.length := by
      show s.data.toList.length = _
      rw [hs, List.length_append, List.length_append]
    have hpos := putL_pos U
    have hsh : ¬ Int.ofNat s.size - Int.ofNat i ≤ Int.ofNat p := by rw [hsz]; ((try simp only [Int.ofNat_eq_natCast] at *); omega)
    by_cases h : U < 128
    · rw [putL_lt h] at hs hl ⊢
      have hat : at1 s (Int.ofNat p) i = Int.ofNat U := by
        rw [at1_of (pre := pre) (post := post) (b := UInt8.ofNat U) (by rw [hs, List.append_assoc]; rfl) hp, u8 (by omega)]
      have hn9 : ¬ (i = 9 ∧ 1 < at1 s (Int.ofNat p) i) := by
        rw [hat]
        intro ⟨h9, h1⟩
        subst h9
        have : (2 : Nat) ^ (7 * 9) = 9223372036854775808 := rfl
        rw [this] at hv
        ((try simp only [Int.ofNat_eq_natCast] at *); omega)
      rw [numGo_end hsh hn9 (by rw [hat]; ((try simp only [Int.ofNat_eq_natCast] at *); omega)) (by rw [hat]; intro ⟨a, b⟩; have := h0 b; ((try simp only [Int.ofNat_eq_natCast] at *); omega)), hat]
      have e : Int.ofNat u + Int.ofNat U % 128 * 2 ^ (7 * i) = Int.ofNat (u + U * 2 ^ (7 * i)) := by
        have : (2 : Int) ^ (7 * i) = ((2 ^ (7 * i) : Nat) : Int) := by rw [Int.natCast_pow]; rfl
        rw [this, show Int.ofNat U % 128 = (U : Int) by ((try simp only [Int.ofNat_eq_natCast] at *); omega), ← Int.natCast_mul]; rfl
      rw [e]
      rfl
    · rw [putL_ge (by omega)] at hs hl ⊢
      rw [List.length_cons] at hl
      have hp2 := putL_pos (U / 128)
      have hat : at1 s (Int.ofNat p) i = Int.ofNat (U % 128 + 128) := by
        rw [at1_of (pre := pre) (post := putL (U / 128) ++ post) (b := UInt8.ofNat (U % 128 + 128)) (by rw [hs, List.append_assoc]; rfl) hp, u8 (by omega)]
      rw [numGo_more hsh (by rw [hat]; ((try simp only [Int.ofNat_eq_natCast] at *); omega)) (by rw [hat]; ((try simp only [Int.ofNat_eq_natCast] at *); omega)), hat]
      have e : Int.ofNat u + Int.ofNat (U % 128 + 128) % 128 * 2 ^ (7 * i) = Int.ofNat (u + U % 128 * 2 ^ (7 * i)) := by
        have : (2 : Int) ^ (7 * i) = ((2 ^ (7 * i) : Nat) : Int) := by rw [Int.natCast_pow]; rfl
        rw [this, show Int.ofNat (U % 128 + 128) % 128 = ((U % 128 : Nat) : Int) by ((try simp only [Int.ofNat_eq_natCast] at *); omega), ← Int.natCast_mul]; rfl
      have ev : u + U % 128 * 2 ^ (7 * i) + U / 128 * 2 ^ (7 * (i + 1)) = u + U * 2 ^ (7 * i) := by
        have e2 : 2 ^ (7 * (i + 1)) = 128 * 2 ^ (7 * i) := by rw [Nat.mul_add, Nat.pow_add]; exact Nat.mul_comm _ _
        rw [e2, ← Nat.mul_assoc, Nat.add_assoc, ← Nat.add_mul]
        congr 2; omega
      rw [e, numGo_put s p k (U / 128) (u + U % 128 * 2 ^ (7 * i)) (i + 1) (pre ++ [UInt8.ofNat (U % 128 + 128)]) post (by rw [hs]; simp) (by rw [List.length_append]; simp; omega) (by omega) (by omega) (by rw [ev]; exact hv) (fun _ => by omega), ev]
      rw [List.length_cons, show p + (i + 1) + (putL (U / 128)).length = p + i + ((putL (U / 128)).length + 1) by omega]
/-- What ends too early is refused. -/
theorem numGo_cut (s : ByteArray) (p : Nat) : ∀ (k : Nat) (U : Nat) (u : Int) (i : Nat) (pre : List UInt8), s.data.toList = pre ++ (putL U).dropLast → pre.length = p + i → i + k = 10 →
    i + (putL U).length ≤ 10 → numGo s (Int.ofNat p) k u i = (0, 0, 4)
  | 0, U, u, i, pre, _, _, hk, hl => by have := putL_pos U; omega
  | k + 1, U, u, i, pre, hs, hp, hk, hl => by
    have hsz : s.size = pre.length + (putL U).dropLast.length := by
      show s.data.toList.length = _
      rw [hs, List.length_append]
    by_cases h : U < 128
    · rw [putL_lt h] at hsz
      exact numGo_short (by rw [hsz]; simp only [List.dropLast_singleton, List.length_nil]; ((try simp only [Int.ofNat_eq_natCast] at *); omega))
    · rw [putL_ge (by omega)] at hs hl hsz
      have hp2 := putL_pos (U / 128)
      have ed : (UInt8.ofNat (U % 128 + 128) :: putL (U / 128)).dropLast = UInt8.ofNat (U % 128 + 128) :: (putL (U / 128)).dropLast := by
        rw [List.dropLast_cons_of_ne_nil]
        intro e; rw [e] at hp2; exact absurd hp2 (by decide)
      rw [ed] at hs hsz
      rw [List.length_cons] at hl hsz
      have hat : at1 s (Int.ofNat p) i = Int.ofNat (U % 128 + 128) := by
        rw [at1_of (pre := pre) (post := (putL (U / 128)).dropLast) (b := UInt8.ofNat (U % 128 + 128)) hs hp, u8 (by omega)]
      rw [numGo_more (by rw [hsz]; ((try simp only [Int.ofNat_eq_natCast] at *); omega)) (by rw [hat]; ((try simp only [Int.ofNat_eq_natCast] at *); omega)) (by rw [hat]; ((try simp only [Int.ofNat_eq_natCast] at *); omega))]
      exact numGo_cut s p k (U / 128) _ (i + 1) (pre ++ [UInt8.ofNat (U % 128 + 128)]) (by rw [hs]; simp) (by rw [List.length_append]; simp; omega) (by omega) (by omega)
theorem unf_fold (n : Int) : unf (foldOf n) = n := by
  unfold unf foldOf
  split <;> split <;> omega
theorem numOf_put (s : ByteArray) (p : Nat) (n : Int) (hn : I64 n) (pre post : List UInt8) (hs : s.data.toList = pre ++ putL (foldOf n).toNat ++ post) (hp : pre.length = p) :
    numOf s (Int.ofNat p) = (n, Int.ofNat (p + (putNum n).size), 0) := by
  have hf := fold_range hn
  obtain ⟨U, hU⟩ := Int.eq_ofNat_of_zero_le hf.1
  rw [hU] at hs hf
  rw [numOf, if_neg (by ((try simp only [Int.ofNat_eq_natCast] at *); omega))]
  have hl : (putNum n).size ≤ 10 := putNum_size n hn
  have e : (putNum n).size = (putL U).length := by
    show (putL (foldOf n).toNat).length = _
    rw [hU]; rfl
  rw [e] at hl ⊢
  have := numGo_put s p 10 U 0 0 pre post hs hp rfl (by omega) (by simp only [Nat.mul_zero, Nat.pow_zero]; omega) (fun h => absurd h (by decide))
  rw [show (0 : Int) = Int.ofNat 0 from rfl, this, show unf (Int.ofNat (0 + U * 2 ^ (7 * 0))) = n by rw [show Int.ofNat (0 + U * 2 ^ (7 * 0)) = foldOf n by rw [hU]; simp]; exact unf_fold n]
  simp
theorem numOf_cut (s : ByteArray) (n : Int) (hn : I64 n) (hs : s.data.toList = (putL (foldOf n).toNat).dropLast) : numOf s 0 = (0, 0, 4) := by
  have hf := fold_range hn
  rw [numOf, if_neg (by decide)]
  have hl : (putNum n).size ≤ 10 := putNum_size n hn
  exact numGo_cut s 0 10 (foldOf n).toNat 0 0 [] hs rfl rfl (by rw [Nat.zero_add]; exact hl)
end Go.Proofs.Ytngnflfjacappaa
