/- Functions of the program, each with what it returns, run by the evaluator; the conditions stand in the theorems. -/
import Derived.Test.YtemfaiabbonpnaaGreatDoorLKey
import Derived.Test.YtemfaiabbonpnaaGreatDoorLCmp
namespace Go.Proofs.YtemfaiabbonpnaaGreatDoor
open Go Go.Proofs.YtemfaiabbonpnaaGreatDoorW Go.Proofs
set_option linter.unusedVariables false
set_option linter.unusedSimpArgs false
set_option maxRecDepth 100000
set_option maxHeartbeats 8000000
/-! The bytes of values. -/
def beL (u : Nat) : Nat → List UInt8
  | 0 => []
  | k + 1 => UInt8.ofNat (u / 256 ^ k % 256) :: beL u k
theorem beL_len (u : Nat) : ∀ k, (beL u k).length = k
  | 0 => rfl
  | k + 1 => by rw [beL, List.length_cons, beL_len u k]
theorem div_mod {u j k : Nat} (h : j < k) : (u % 256 ^ k) / 256 ^ j % 256 = u / 256 ^ j % 256 := by
  obtain ⟨d, rfl⟩ : ∃ d, k = j + (d + 1) := ⟨k - j - 1, by omega⟩
  rw [Nat.pow_add, Nat.mod_mul_right_div_self, Nat.pow_succ, Nat.mul_comm, Nat.mod_mul_right_mod]
theorem beL_mod (u K : Nat) : ∀ k, k ≤ K → beL (u % 256 ^ K) k = beL u k
  | 0, _ => rfl
  | k + 1, h => by rw [beL, beL, beL_mod u K k (by omega), div_mod (by omega)]
theorem cmpL_nn : cmpL [] [] = 0 := by simp [cmpL]
theorem cmpL_nc (y : UInt8) (b : List UInt8) : cmpL [] (y :: b) = -1 := by simp [cmpL]
theorem cmpL_cn (x : UInt8) (a : List UInt8) : cmpL (x :: a) [] = 1 := by simp [cmpL]
theorem cmpL_anti : ∀ a b : List UInt8, cmpL b a = - cmpL a b
  | [], [] => by rw [cmpL_nn]; rfl
  | [], y :: b => by rw [cmpL_nc, cmpL_cn]; rfl
  | x :: a, [] => by rw [cmpL_nc, cmpL_cn]
  | x :: a, y :: b => by
    rw [cmpL_cons, cmpL_cons, cmpL_anti a b]
    by_cases h : x = y
    · subst h; rw [if_pos rfl, if_pos rfl]
    · rw [if_neg h, if_neg (Ne.symm h)]
      by_cases h1 : x < y
      · rw [if_pos h1, if_neg (fun h2 => by exact absurd (UInt8.lt_trans h1 h2) (UInt8.lt_irrefl x))]; rfl
      · rw [if_neg h1, if_pos (UInt8.lt_of_le_of_ne (UInt8.not_lt.1 h1) (Ne.symm h))]
theorem u8_lt {a b : Nat} (ha : a < 256) (hb : b < 256) : (UInt8.ofNat a < UInt8.ofNat b) ↔ a < b := by
  rw [UInt8.lt_iff_toNat_lt, UInt8.toNat_ofNat', UInt8.toNat_ofNat', Nat.mod_eq_of_lt ha, Nat.mod_eq_of_lt hb]
theorem u8_eq {a b : Nat} (ha : a < 256) (hb : b < 256) : (UInt8.ofNat a = UInt8.ofNat b) ↔ a = b := by
  rw [← UInt8.toNat_inj, UInt8.toNat_ofNat', UInt8.toNat_ofNat', Nat.mod_eq_of_lt ha, Nat.mod_eq_of_lt hb]
theorem two_digits {P a b c e : Nat} {x : Int} (hc : c < P) (he : e < P) : (if a = b then (if c < e then -1 else if e < c then 1 else x) else if a < b then (-1 : Int) else 1) = if P * a + c < P * b + e then -1 else if P * b + e < P * a + c then 1 else x := by
  by_cases h : a = b
  · subst h
    rw [if_pos rfl]
    have e1 : P * a + c < P * a + e ↔ c < e := by omega
    have e2 : P * a + e < P * a + c ↔ e < c := by omega
    simp only [e1, e2]
  · rw [if_neg h]
    rcases Nat.lt_or_gt_of_ne h with h1 | h1
    · have : P * a + P ≤ P * b := by rw [← Nat.mul_succ]; exact Nat.mul_le_mul_left P h1
      rw [if_pos h1, if_pos (by omega)]
    · have : P * b + P ≤ P * a := by rw [← Nat.mul_succ]; exact Nat.mul_le_mul_left P h1
      rw [if_neg (by omega), if_neg (by omega), if_pos (by omega)]
theorem cmpL_be (r r' : List UInt8) : ∀ (k u v : Nat), u < 256 ^ k → v < 256 ^ k → cmpL (beL u k ++ r) (beL v k ++ r') = if u < v then -1 else if v < u then 1 else cmpL r r'
  | 0, u, v, hu, hv => by
    have h1 : u < 1 := hu
    have h2 : v < 1 := hv
    rw [if_neg (by omega), if_neg (by omega)]; rfl
  | k + 1, u, v, hu, hv => by
    have hp : 0 < 256 ^ k := Nat.pow_pos (by decide)
    have hu' : u / 256 ^ k < 256 := Nat.div_lt_of_lt_mul (by rw [Nat.pow_succ, Nat.mul_comm] at hu; rw [Nat.mul_comm]; omega)
    have hv' : v / 256 ^ k < 256 := Nat.div_lt_of_lt_mul (by rw [Nat.pow_succ, Nat.mul_comm] at hv; rw [Nat.mul_comm]; omega)
    rw [beL, beL, List.cons_append, List.cons_append, cmpL_cons, Nat.mod_eq_of_lt hu', Nat.mod_eq_of_lt hv', ← beL_mod u k k (Nat.le_refl _), ← beL_mod v k k (Nat.le_refl _), cmpL_be r r' k _ _ (Nat.mod_lt _ hp) (Nat.mod_lt _ hp)]
    have eu := Nat.div_add_mod u (256 ^ k)
    have ev := Nat.div_add_mod v (256 ^ k)
    have mu := Nat.mod_lt u hp
    have mv := Nat.mod_lt v hp
    simp only [u8_eq hu' hv', u8_lt hu' hv']
    have key := two_digits (a := u / 256 ^ k) (b := v / 256 ^ k) (x := cmpL r r') mu mv
    rw [eu, ev] at key
    exact key
/-- A text's bytes: an empty byte is followed by 255. -/
def esc : List UInt8 → List UInt8
  | [] => []
  | b :: r => if b = 0 then 0 :: 255 :: esc r else b :: esc r
theorem esc_0 (r : List UInt8) : esc (0 :: r) = 0 :: 255 :: esc r := if_pos rfl
theorem esc_n {b : UInt8} (h : b ≠ 0) (r : List UInt8) : esc (b :: r) = b :: esc r := if_neg h
theorem u8_pos {b : UInt8} (h : b ≠ 0) : (0 : UInt8) < b := by
  rw [UInt8.lt_iff_toNat_lt]
  have : b.toNat ≠ 0 := fun e => h (UInt8.toNat_inj.1 e)
  show 0 < b.toNat
  omega
theorem u8_npos (b : UInt8) : ¬ b < 0 := by
  rw [UInt8.lt_iff_toNat_lt]
  show ¬ b.toNat < 0
  omega
theorem cmpL_esc (r r' : List UInt8) : ∀ a b : List UInt8, cmpL (esc a ++ 0 :: 0 :: r) (esc b ++ 0 :: 0 :: r') = if cmpL a b = 0 then cmpL r r' else cmpL a b
  | [], [] => by rw [cmpL_nn, if_pos rfl, esc, List.nil_append, List.nil_append, cmpL_cons, if_pos rfl, cmpL_cons, if_pos rfl]
  | [], y :: b => by
    rw [cmpL_nc, if_neg (by decide), esc, List.nil_append]
    by_cases h : y = 0
    · subst h
      rw [esc_0, List.cons_append, List.cons_append, cmpL_cons, if_pos rfl, cmpL_cons, if_neg (by decide), if_pos (by decide)]
    · rw [esc_n h, List.cons_append, cmpL_cons, if_neg (Ne.symm h), if_pos (u8_pos h)]
  | x :: a, [] => by
    rw [cmpL_cn, if_neg (by decide)]
    by_cases h : x = 0
    · subst h
      rw [esc_0, esc, List.nil_append, List.cons_append, List.cons_append, cmpL_cons, if_pos rfl, cmpL_cons, if_neg (by decide), if_neg (by decide)]
    · rw [esc_n h, esc, List.nil_append, List.cons_append, cmpL_cons, if_neg h, if_neg (u8_npos x)]
  | x :: a, y :: b => by
    have ih := cmpL_esc r r' a b
    rw [cmpL_cons]
    by_cases hxy : x = y
    · subst hxy
      rw [if_pos rfl]
      by_cases h : x = 0
      · subst h
        rw [esc_0, esc_0, List.cons_append, List.cons_append, List.cons_append, List.cons_append, cmpL_cons, if_pos rfl, cmpL_cons, if_pos rfl, ih]
      · rw [esc_n h, esc_n h, List.cons_append, List.cons_append, cmpL_cons, if_pos rfl, ih]
    · rw [if_neg hxy]
      have hne : (if x < y then (-1 : Int) else 1) ≠ 0 := by split <;> decide
      rw [if_neg hne]
      by_cases hx : x = 0
      · subst hx
        have hy : y ≠ 0 := Ne.symm hxy
        rw [esc_0, esc_n hy, List.cons_append, List.cons_append, List.cons_append, cmpL_cons, if_neg hxy]
      · by_cases hy : y = 0
        · subst hy
          rw [esc_0, esc_n hx, List.cons_append, List.cons_append, List.cons_append, cmpL_cons, if_neg hxy]
        · rw [esc_n hx, esc_n hy, List.cons_append, List.cons_append, cmpL_cons, if_neg hxy]
theorem xor63 {m : Nat} (h : m < 9223372036854775808) : m ^^^ 9223372036854775808 = 9223372036854775808 + m := by
  refine Nat.eq_of_testBit_eq fun j => ?_
  rw [Nat.testBit_xor, show (9223372036854775808 : Nat) = 2 ^ 63 from rfl, Nat.testBit_two_pow]
  rcases Nat.lt_trichotomy j 63 with hj | hj | hj
  · rw [Nat.testBit_two_pow_add_gt hj, decide_eq_false (by omega), Bool.xor_false]
  · subst hj
    rw [Nat.testBit_two_pow_add_eq, decide_eq_true rfl, Bool.xor_true]
  · have h1 : 2 ^ 64 ≤ 2 ^ j := Nat.pow_le_pow_right (by decide) hj
    rw [Nat.testBit_lt_two_pow (show m < 2 ^ j from Nat.lt_of_lt_of_le (Nat.lt_of_lt_of_le h (by decide)) h1), decide_eq_false (by omega), Nat.testBit_lt_two_pow (show 2 ^ 63 + m < 2 ^ j from Nat.lt_of_lt_of_le (by show 9223372036854775808 + m < 18446744073709551616; omega) h1)]
    rfl
theorem xor63' {m : Nat} (h : m < 9223372036854775808) : (9223372036854775808 + m) ^^^ 9223372036854775808 = m := by
  rw [← xor63 h, Nat.xor_assoc, Nat.xor_self, Nat.xor_zero]
theorem wrapU64 (n : Nat) (h : n < 18446744073709551616) : IntKind.u64.wrap (n : Int) = Int.ofNat n := by
  unfold IntKind.wrap
  simp only [IntKind.bits, IntKind.signed, Bool.false_and]
  show (n : Int) % 18446744073709551616 = _
  exact Int.emod_eq_of_lt (by omega) (by omega)
theorem xorU64 {a b : Nat} (ha : a < 18446744073709551616) (hb : b < 18446744073709551616) : prims.xor .u64 (Int.ofNat a) (Int.ofNat b) = Int.ofNat (a ^^^ b) := by
  show IntKind.u64.wrap ((BitVec.ofInt 64 (Int.ofNat a) ^^^ BitVec.ofInt 64 (Int.ofNat b)).toNat : Int) = _
  rw [show BitVec.ofInt 64 (Int.ofNat a) = BitVec.ofNat 64 a from BitVec.ofInt_natCast 64 a, show BitVec.ofInt 64 (Int.ofNat b) = BitVec.ofNat 64 b from BitVec.ofInt_natCast 64 b, BitVec.toNat_xor, BitVec.toNat_ofNat, BitVec.toNat_ofNat, Nat.mod_eq_of_lt ha, Nat.mod_eq_of_lt hb]
  exact wrapU64 _ (Nat.xor_lt_two_pow (n := 64) ha hb)
/-- A number, turned so that the order of the bytes is its order. -/
def uOf (n : Int) : Nat := (n + 9223372036854775808).toNat
theorem uOf_lt {n : Int} (h : I64 n) : uOf n < 18446744073709551616 := by have := h.1; have := h.2; rw [uOf]; omega
theorem convU64 {n : Int} (h : I64 n) : prims.conv .u64 n = if 0 ≤ n then n else n + 18446744073709551616 := by
  have h1 := h.1; have h2 := h.2
  show IntKind.u64.wrap n = _
  unfold IntKind.wrap
  simp only [IntKind.bits, IntKind.signed, Bool.false_and]
  show n % 18446744073709551616 = _
  split
  · exact Int.emod_eq_of_lt (by omega) (by omega)
  · rw [← Int.add_emod_right]; exact Int.emod_eq_of_lt (by omega) (by omega)
theorem turn_is {n : Int} (h : I64 n) : prims.xor .u64 (prims.conv .u64 n) 9223372036854775808 = Int.ofNat (uOf n) := by
  have h1 := h.1; have h2 := h.2
  rw [convU64 h, show (9223372036854775808 : Int) = Int.ofNat 9223372036854775808 from rfl]
  by_cases h0 : 0 ≤ n
  · obtain ⟨m, rfl⟩ : ∃ m : Nat, n = Int.ofNat m := ⟨n.toNat, by ((try simp only [Int.ofNat_eq_natCast] at *); omega)⟩
    rw [if_pos h0, xorU64 (by ((try simp only [Int.ofNat_eq_natCast] at *); omega)) (by decide), xor63 (by ((try simp only [Int.ofNat_eq_natCast] at *); omega)), uOf]
    congr 1
    ((try simp only [Int.ofNat_eq_natCast] at *); omega)
  · obtain ⟨m, hm⟩ : ∃ m : Nat, n + 9223372036854775808 = Int.ofNat m := ⟨(n + 9223372036854775808).toNat, by ((try simp only [Int.ofNat_eq_natCast] at *); omega)⟩
    rw [if_neg h0, show n + 18446744073709551616 = Int.ofNat (9223372036854775808 + m) by ((try simp only [Int.ofNat_eq_natCast] at *); omega), xorU64 (by ((try simp only [Int.ofNat_eq_natCast] at *); omega)) (by decide), xor63' (by ((try simp only [Int.ofNat_eq_natCast] at *); omega)), uOf]
    congr 1
    ((try simp only [Int.ofNat_eq_natCast] at *); omega)
theorem turn_back {n : Int} (h : I64 n) : prims.conv .i64 (prims.xor .u64 (Int.ofNat (uOf n)) 9223372036854775808) = n := by
  have h1 := h.1; have h2 := h.2
  rw [show (9223372036854775808 : Int) = Int.ofNat 9223372036854775808 from rfl]
  have wr : ∀ m : Int, IntKind.i64.wrap m = if m % 18446744073709551616 ≥ 9223372036854775808 then m % 18446744073709551616 - 18446744073709551616 else m % 18446744073709551616 := fun m => by
    unfold IntKind.wrap
    simp [IntKind.bits, IntKind.signed]
  show IntKind.i64.wrap _ = _
  by_cases h0 : 0 ≤ n
  · obtain ⟨m, rfl⟩ : ∃ m : Nat, n = Int.ofNat m := ⟨n.toNat, by ((try simp only [Int.ofNat_eq_natCast] at *); omega)⟩
    have e : uOf (Int.ofNat m) = 9223372036854775808 + m := by rw [uOf]; ((try simp only [Int.ofNat_eq_natCast] at *); omega)
    rw [e, xorU64 (by ((try simp only [Int.ofNat_eq_natCast] at *); omega)) (by decide), xor63' (by ((try simp only [Int.ofNat_eq_natCast] at *); omega)), wrap_i64 (by ((try simp only [Int.ofNat_eq_natCast] at *); omega)) (by ((try simp only [Int.ofNat_eq_natCast] at *); omega))]
  · obtain ⟨m, hm⟩ : ∃ m : Nat, n + 9223372036854775808 = Int.ofNat m := ⟨(n + 9223372036854775808).toNat, by ((try simp only [Int.ofNat_eq_natCast] at *); omega)⟩
    have e : uOf n = m := by rw [uOf]; ((try simp only [Int.ofNat_eq_natCast] at *); omega)
    rw [e, xorU64 (by ((try simp only [Int.ofNat_eq_natCast] at *); omega)) (by decide), xor63 (by ((try simp only [Int.ofNat_eq_natCast] at *); omega)), wr]
    split <;> ((try simp only [Int.ofNat_eq_natCast] at *); omega)
theorem turn_of {u : Nat} (h : u < 18446744073709551616) : I64 (prims.conv .i64 (prims.xor .u64 (Int.ofNat u) 9223372036854775808)) ∧ uOf (prims.conv .i64 (prims.xor .u64 (Int.ofNat u) 9223372036854775808)) = u := by
  have e : prims.conv .i64 (prims.xor .u64 (Int.ofNat u) 9223372036854775808) = Int.ofNat u - 9223372036854775808 := by
    have hn : I64 (Int.ofNat u - 9223372036854775808) := ⟨by ((try simp only [Int.ofNat_eq_natCast] at *); omega), by ((try simp only [Int.ofNat_eq_natCast] at *); omega)⟩
    have e2 : uOf (Int.ofNat u - 9223372036854775808) = u := by rw [uOf]; ((try simp only [Int.ofNat_eq_natCast] at *); omega)
    have := turn_back hn
    rw [e2] at this
    exact this
  rw [e]
  exact ⟨⟨by ((try simp only [Int.ofNat_eq_natCast] at *); omega), by ((try simp only [Int.ofNat_eq_natCast] at *); omega)⟩, by rw [uOf]; ((try simp only [Int.ofNat_eq_natCast] at *); omega)⟩
def bodyV (v : Val) : List UInt8 := if v.k = 1 then [lastByte v.n] else if v.k = 2 then beL (uOf v.n) 8 else if v.k = 3 then esc v.s.data.toList ++ [0, 0] else []
def encV (v : Val) : List UInt8 := lastByte v.k :: bodyV v
def keyL (l : List Val) : List UInt8 := l.flatMap encV
theorem lastB (n : Nat) (h : n < 256) : lastByte (Int.ofNat n) = UInt8.ofNat n := by
  rw [lastByte, conv_u8, show (Int.ofNat n) % 256 = Int.ofNat n from Int.emod_eq_of_lt (by ((try simp only [Int.ofNat_eq_natCast] at *); omega)) (by ((try simp only [Int.ofNat_eq_natCast] at *); omega))]; rfl
theorem keyL_cons (v : Val) (l : List Val) : keyL (v :: l) = encV v ++ keyL l := rfl
theorem toL (s : ByteArray) : s.toList = s.data.toList := ByteArray.toList_eq s
theorem cmpS_L (a b : ByteArray) : cmpS a b = cmpL a.data.toList b.data.toList := by
  rw [cmpS_is, cmpL_is, toL, toL]
  have : (a = b) = (a.data.toList = b.data.toList) := by rw [← toL, ← toL, toList_inj]
  simp only [this]
/-- What a right value is. -/
theorem right_is {v : Val} (h : v.right = true) : v = ⟨0, 0, ⟨⟨[]⟩⟩⟩ ∨ (∃ n : Nat, n ≤ 1 ∧ v = ⟨1, Int.ofNat n, ⟨⟨[]⟩⟩⟩) ∨ (∃ n, v = ⟨2, n, ⟨⟨[]⟩⟩⟩) ∨ (∃ s : ByteArray, s.size ≤ 200 ∧ v = ⟨3, 0, s⟩) := by
  obtain ⟨k, n, s⟩ := v
  have nil : s.toList = [] → s = ⟨⟨[]⟩⟩ := fun e => toList_inj.1 (e.trans (by rw [toL]))
  rw [Val.right, valueRight] at h
  dsimp only at h
  split at h
  · rename_i hk
    simp only [Bool.and_eq_true, decide_eq_true_eq] at h
    left; rw [hk, h.1, nil h.2]
  · split at h
    · rename_i hk
      simp only [Bool.and_eq_true, decide_eq_true_eq] at h
      right; left
      exact ⟨n.toNat, by omega, by rw [hk, nil h.2, show Int.ofNat n.toNat = n from Int.toNat_of_nonneg h.1.1]⟩
    · split at h
      · rename_i hk
        right; right; left
        exact ⟨n, by rw [hk, nil (of_decide_eq_true h)]⟩
      · split at h
        · rename_i hk
          simp only [Bool.and_eq_true, decide_eq_true_eq] at h
          right; right; right
          exact ⟨s, h.2, by rw [hk, h.1]⟩
        · cases h
theorem enc_null : encV ⟨0, 0, ⟨⟨[]⟩⟩⟩ = [0] := by rw [encV, bodyV]; rfl
theorem enc_bool {n : Nat} (h : n ≤ 1) : encV ⟨1, Int.ofNat n, ⟨⟨[]⟩⟩⟩ = [1, UInt8.ofNat n] := by rw [encV, bodyV]; dsimp only; rw [if_pos rfl, lastB n (by omega)]; rfl
theorem enc_int (n : Int) (s : ByteArray) : encV ⟨2, n, s⟩ = 2 :: beL (uOf n) 8 := by rw [encV, bodyV]; dsimp only; rw [if_neg (by decide), if_pos rfl]; rfl
theorem enc_text (n : Int) (s : ByteArray) : encV ⟨3, n, s⟩ = 3 :: (esc s.data.toList ++ [0, 0]) := by rw [encV, bodyV]; dsimp only; rw [if_neg (by decide), if_neg (by decide), if_pos rfl]; rfl
structure Fit (v : Val) : Prop where
  right : v.right = true
  i64 : I64 v.n
theorem cmp_enc {v u : Val} (hv : Fit v) (hu : Fit u) (r r' : List UInt8) : cmpL (encV v ++ r) (encV u ++ r') = if v.cmp u = 0 then cmpL r r' else v.cmp u := by
  rcases right_is hv.right with rfl | ⟨n, hn, rfl⟩ | ⟨n, rfl⟩ | ⟨s, hs, rfl⟩ <;> rcases right_is hu.right with rfl | ⟨n', hn', rfl⟩ | ⟨n', rfl⟩ | ⟨s', hs', rfl⟩
  all_goals simp only [enc_null, enc_int, enc_text, Val.cmp, cmpV]
  all_goals try simp only [enc_bool hn]
  all_goals try simp only [enc_bool hn']
  all_goals simp only [List.cons_append, List.nil_append, List.append_assoc, cmpL_cons]
  all_goals try (simp; done)
  · simp [cmpS_L, cmpL_nn]
  · simp only [if_true, Int.lt_irrefl, if_false, cmpS_L, cmpL_nn]
    simp only [u8_eq (show n < 256 by omega) (show n' < 256 by omega), u8_lt (show n < 256 by omega) (show n' < 256 by omega)]
    by_cases h : n = n'
    · subst h; simp
    · rw [if_neg h]
      by_cases h1 : n < n'
      · have h2 : Int.ofNat n < Int.ofNat n' := by ((try simp only [Int.ofNat_eq_natCast] at *); omega)
        simp [h1, h2]
      · have h2 : ¬ Int.ofNat n < Int.ofNat n' := by ((try simp only [Int.ofNat_eq_natCast] at *); omega)
        have h3 : Int.ofNat n' < Int.ofNat n := by ((try simp only [Int.ofNat_eq_natCast] at *); omega)
        rw [if_neg h1, if_neg h2, if_pos h3, if_neg (by decide)]
  · simp only [if_true, Int.lt_irrefl, if_false, cmpS_L, cmpL_nn]
    rw [cmpL_be r r' 8 _ _ (uOf_lt hv.i64) (uOf_lt hu.i64)]
    have h1 := hv.i64.1
    have h2 := hu.i64.1
    dsimp only at h1 h2
    have e1 : uOf n < uOf n' ↔ n < n' := by rw [uOf, uOf]; omega
    have e2 : uOf n' < uOf n ↔ n' < n := by rw [uOf, uOf]; omega
    simp only [e1, e2]
    by_cases h : n < n'
    · rw [if_pos h, if_pos h, if_neg (by decide)]
    · rw [if_neg h, if_neg h]
      by_cases h' : n' < n
      · rw [if_pos h', if_pos h', if_neg (by decide)]
      · rw [if_neg h', if_neg h', if_pos rfl]
  · simp only [if_true, Int.lt_irrefl, if_false, cmpS_L]
    exact cmpL_esc r r' _ _
theorem cmp_keys : ∀ {a b : List Val}, (∀ v ∈ a, Fit v) → (∀ v ∈ b, Fit v) → cmpL (keyL a) (keyL b) = cmpLs a b
  | [], [], _, _ => by rw [cmpLs]; exact cmpL_nn
  | [], y :: b, _, _ => by rw [cmpLs, keyL_cons, encV]; exact cmpL_nc _ _
  | x :: a, [], _, _ => by rw [cmpLs, keyL_cons, encV]; exact cmpL_cn _ _
  | x :: a, y :: b, ha, hb => by
    rw [keyL_cons, keyL_cons, cmp_enc (ha x (.head _)) (hb y (.head _)), cmpLs, cmp_keys (fun v hv => ha v (.tail _ hv)) (fun v hv => hb v (.tail _ hv))]
end Go.Proofs.YtemfaiabbonpnaaGreatDoor
