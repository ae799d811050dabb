/- Functions of the program, each with what it returns, run by the evaluator; the conditions stand in the theorems. -/
import Derived.Test.YthaelohccopgjaaLBytes
namespace Go.Proofs.Ythaelohccopgjaa
open Go Go.Proofs.YthaelohccopgjaaW Go.Proofs
set_option linter.unusedVariables false
set_option linter.unusedSimpArgs false
set_option maxRecDepth 100000
set_option maxHeartbeats 8000000
theorem wrap_u64 (n : Int) : IntKind.u64.wrap n = n % 18446744073709551616 := by simp [IntKind.wrap, IntKind.bits, IntKind.signed]
theorem or128 (y : Int) (h0 : 0 ≤ y) (h1 : y < 256) : bitsW .or .u8 y 128 = y % 128 + 128 := by
  obtain ⟨n, rfl⟩ := Int.eq_ofNat_of_zero_le h0
  have key : ∀ m : Fin 256, bitsW .or .u8 ((m.val : Nat) : Int) 128 = ((m.val : Nat) : Int) % 128 + 128 := by decide +kernel
  exact key ⟨n, by omega⟩
theorem xor_0 (x : Int) (h0 : 0 ≤ x) (h1 : x < 18446744073709551616) : bitsW .xor .u64 x 0 = x := by
  obtain ⟨n, rfl⟩ := Int.eq_ofNat_of_zero_le h0
  have e : BitVec.ofInt 64 0 = 0#64 := by decide
  show IntKind.u64.wrap (((BitVec.ofInt 64 (n : Int) ^^^ BitVec.ofInt 64 0 : BitVec 64).toNat : Nat) : Int) = _
  rw [e, BitVec.ofInt_natCast, BitVec.xor_zero, BitVec.toNat_ofNat, wrap_u64]
  omega
theorem xor_1 (x : Int) (h0 : 0 ≤ x) (h1 : x < 18446744073709551616) : bitsW .xor .u64 x 18446744073709551615 = 18446744073709551615 - x := by
  obtain ⟨n, rfl⟩ := Int.eq_ofNat_of_zero_le h0
  have e : BitVec.ofInt 64 18446744073709551615 = BitVec.allOnes 64 := by decide
  show IntKind.u64.wrap (((BitVec.ofInt 64 (n : Int) ^^^ BitVec.ofInt 64 18446744073709551615 : BitVec 64).toNat : Nat) : Int) = _
  rw [e, BitVec.ofInt_natCast, BitVec.xor_allOnes, BitVec.toNat_not, BitVec.toNat_ofNat, wrap_u64]
  omega
/-- The number that is written: twice n, or twice -n less 1. -/
def foldOf (a : Int) : Int := if a < 0 then -2 * a - 1 else 2 * a
theorem fold_range {a : Int} (h : I64 a) : 0 ≤ foldOf a ∧ foldOf a < 18446744073709551616 := by
  obtain ⟨h1, h2⟩ := h
  unfold foldOf
  split <;> omega
def putL (u : Nat) : List UInt8 := if u < 128 then [UInt8.ofNat u] else UInt8.ofNat (u % 128 + 128) :: putL (u / 128)
termination_by u
decreasing_by omega
def putNum (n : Int) : ByteArray := ⟨⟨putL (foldOf n).toNat⟩⟩
abbrev aU (n : Int) : A := .c (.y (.sc (.int .u64 n)))
theorem putL_lt {u : Nat} (h : u < 128) : putL u = [UInt8.ofNat u] := by rw [putL, if_pos h]
theorem putL_ge {u : Nat} (h : 128 ≤ u) : putL u = UInt8.ofNat (u % 128 + 128) :: putL (u / 128) := by rw [putL, if_neg (by omega)]
abbrev yU8 (n : Int) : Y := .sc (.int .u8 n)
/-- What the loops keep. -/
structure PutAt (n q : Int) (xs : List (List Y)) : Prop where
  ex : ∃ acc, xs = bytesL acc ∧ 0 ≤ q ∧ q < 18446744073709551616 ∧ acc ++ putL q.toNat = putL (foldOf n).toNat
theorem PutAt.start {n : Int} (h : I64 n) : PutAt n (foldOf n) [] := ⟨[], rfl, (fold_range h).1, (fold_range h).2, rfl⟩
theorem byteY (u : Nat) (h : u < 256) : Y.sc (.int .u8 (u : Int)) = Y.sc (.int .u8 ((UInt8.ofNat u).toNat : Int)) := by
  have : (UInt8.ofNat u).toNat = u := by simp [UInt8.toNat_ofNat']; omega
  rw [this]
theorem PutAt.step {n q : Int} {xs : List (List Y)} (h : PutAt n q xs) (hq : 128 ≤ q) : PutAt n (q / 128) (prims.lapp xs [[.sc (.int .u8 (q % 128 + 128))]]) := by
  obtain ⟨acc, rfl, h0, h1, h2⟩ := h
  obtain ⟨u, rfl⟩ := Int.eq_ofNat_of_zero_le h0
  refine ⟨acc ++ [UInt8.ofNat (u % 128 + 128)], ?_, by omega, by omega, ?_⟩
  · have := byteY (u % 128 + 128) (by omega)
    simp only [bytesL, List.map_append, List.map_cons, List.map_nil]
    rw [← this]; rfl
  · rw [← h2]
    have e : ((u : Int) / 128).toNat = u / 128 := by have : ((u : Int) / 128) = ((u / 128 : Nat) : Int) := by omega
                                                     rw [this]; rfl
    have e' : (u : Int).toNat = u := rfl
    rw [e, e', putL_ge (u := u) (by omega), List.append_assoc]; rfl
theorem PutAt.stop {n q : Int} {xs : List (List Y)} (h : PutAt n q xs) (hq : q < 128) : BytesOf (prims.lapp xs [[.sc (.int .u8 q)]]) (putNum n) := by
  obtain ⟨acc, rfl, h0, h1, h2⟩ := h
  obtain ⟨u, rfl⟩ := Int.eq_ofNat_of_zero_le h0
  refine ⟨?_⟩
  have e' : (u : Int).toNat = u := rfl
  have := byteY u (by omega)
  show bytesL acc ++ _ = bytesL (putL (foldOf n).toNat)
  rw [← h2, e', putL_lt (by omega)]
  simp only [bytesL, List.map_append, List.map_cons, List.map_nil]
  rw [← this]
theorem putL_len : ∀ (d u : Nat), u < 128 ^ (d + 1) → (putL u).length ≤ d + 1
  | 0, u, h => by rw [putL_lt (by simpa using h)]; simp
  | d + 1, u, h => by
    by_cases h1 : u < 128
    · rw [putL_lt h1]; simp
    · rw [putL_ge (by omega), List.length_cons]
      have := putL_len d (u / 128) (by rw [Nat.pow_succ] at h; omega)
      omega
theorem PutAt.short {n q : Int} {xs : List (List Y)} (h : PutAt n q xs) (hn : I64 n) : xs.length ≤ 1000 := by
  obtain ⟨acc, rfl, h0, h1, h2⟩ := h
  have := putL_len 9 (foldOf n).toNat (by have := fold_range hn; omega)
  rw [← h2, List.length_append] at this
  rw [bytesL, List.length_map]; omega
theorem putNum_size (n : Int) (h : I64 n) : (putNum n).size ≤ 10 := putL_len 9 (foldOf n).toNat (by have := fold_range h; omega)
def putText (s : ByteArray) : ByteArray := if tooLong s then ⟨⟨[]⟩⟩ else putNum s.size ++ s
end Go.Proofs.Ythaelohccopgjaa
