/- Functions of the program, each with what it returns, run by the evaluator; the conditions stand in the theorems. -/
import Derived.Test.YtemfaiabbonpnaaGreatDoorLKBP
namespace Go.Proofs.YtemfaiabbonpnaaGreatDoor
open Go Go.Proofs.YtemfaiabbonpnaaGreatDoorW Go.Proofs
set_option linter.unusedVariables false
set_option linter.unusedSimpArgs false
set_option maxRecDepth 100000
set_option maxHeartbeats 8000000
/-! Values are read back from their bytes, and bytes from their values. -/
theorem bAt_list (t : ByteArray) (j : Nat) : bAt t j = (t.data.toList[j]?).getD 0 := by
  rw [bAt]
  by_cases h : j < t.size
  · rw [getElem?_pos t j h, List.getElem?_eq_getElem (show j < t.data.toList.length from h)]; rfl
  · rw [getElem?_neg t j h, List.getElem?_eq_none (show t.data.toList.length ≤ j from Nat.le_of_not_lt h)]
theorem at_cons {t : ByteArray} {p : Nat} {x : UInt8} {r : List UInt8} (h : t.data.toList.drop p = x :: r) : bAt t p = x ∧ p < t.size ∧ t.data.toList.drop (p + 1) = r := by
  have h0 : (t.data.toList.drop p)[0]? = (x :: r)[0]? := congrArg (fun l : List UInt8 => l[0]?) h
  rw [List.getElem?_drop, Nat.add_zero] at h0
  refine ⟨by rw [bAt_list, h0]; rfl, ?_, ?_⟩
  · have := (List.getElem?_eq_some_iff.1 h0).1
    exact this
  · rw [← List.drop_drop, h]; rfl
theorem at_drop {t : ByteArray} {p : Nat} (h : p < t.size) : t.data.toList.drop p = bAt t p :: t.data.toList.drop (p + 1) := by
  rw [bAt_list, List.getElem?_eq_getElem (show p < t.data.toList.length from h)]
  exact List.drop_eq_getElem_cons h
theorem scan_enc {t : ByteArray} {r : List UInt8} : ∀ (s : List UInt8) (j : Nat) (acc : List UInt8), t.data.toList.drop j = esc s ++ 0 :: 0 :: r → scan t j acc = (some ⟨⟨acc ++ s⟩⟩, j + (esc s).length + 2)
  | [], j, acc, h => by
    obtain ⟨h1, h2, h3⟩ := at_cons h
    obtain ⟨h4, h5, h6⟩ := at_cons h3
    rw [scan_some h5 h1 h4, List.append_nil]; rfl
  | b :: s, j, acc, h => by
    by_cases hb : b = 0
    · subst hb
      rw [esc_0] at h ⊢
      obtain ⟨h1, h2, h3⟩ := at_cons h
      obtain ⟨h4, h5, h6⟩ := at_cons h3
      rw [scan_zero h5 h1 h4, scan_enc s (j + 2) _ h6, List.append_assoc]
      simp only [List.length_cons, List.singleton_append]
      congr 1
      omega
    · rw [esc_n hb, List.cons_append] at h
      rw [esc_n hb]
      obtain ⟨h1, h2, h3⟩ := at_cons h
      have hl := congrArg List.length h3
      rw [List.length_drop, List.length_append] at hl
      simp only [List.length_cons] at hl
      have hsz : t.data.toList.length = t.size := rfl
      rw [scan_next (by omega) (by rw [h1]; exact hb), h1, scan_enc s (j + 1) _ h3, List.append_assoc]
      simp only [List.length_cons, List.singleton_append]
      congr 1
      omega
theorem beL_snoc (U b : Nat) (hb : b < 256) : ∀ k, beL (U * 256 + b) (k + 1) = beL U k ++ [UInt8.ofNat b]
  | 0 => by rw [beL, beL, beL, List.nil_append, Nat.pow_zero, Nat.div_one, Nat.mul_comm, Nat.mul_add_mod, Nat.mod_eq_of_lt hb]
  | k + 1 => by
    rw [beL, beL_snoc U b hb k, beL, List.cons_append]
    congr 2
    rw [Nat.pow_succ, Nat.mul_comm (256 ^ k) 256, ← Nat.div_div_eq_div_mul]
    congr 2
    omega
theorem orN {a b : Nat} (ha : a < 72057594037927936) (hb : b < 256) : prims.or .u64 (prims.shl .u64 (Int.ofNat a) 8) (prims.conv .u64 (Int.ofNat b)) = Int.ofNat (a * 256 + b) := by
  have e1 : prims.shl .u64 (Int.ofNat a) 8 = Int.ofNat (a * 256) := by
    show IntKind.u64.wrap (Int.ofNat a * 2 ^ min (8 : Int).toNat IntKind.u64.bits) = _
    have : Int.ofNat a * 2 ^ min (8 : Int).toNat IntKind.u64.bits = ((a * 256 : Nat) : Int) := by
      rw [show min (8 : Int).toNat IntKind.u64.bits = 8 from rfl, show (2 : Int) ^ 8 = 256 from rfl]; ((try simp only [Int.ofNat_eq_natCast] at *); omega)
    rw [this]
    exact wrapU64 _ (by omega)
  have e2 : prims.conv .u64 (Int.ofNat b) = Int.ofNat b := wrapU64 b (by omega)
  rw [e1, e2]
  show IntKind.u64.wrap ((BitVec.ofInt 64 (Int.ofNat (a * 256)) ||| BitVec.ofInt 64 (Int.ofNat b)).toNat : Int) = _
  rw [show BitVec.ofInt 64 (Int.ofNat (a * 256)) = BitVec.ofNat 64 (a * 256) from BitVec.ofInt_natCast 64 _, show BitVec.ofInt 64 (Int.ofNat b) = BitVec.ofNat 64 b from BitVec.ofInt_natCast 64 b, BitVec.toNat_or, BitVec.toNat_ofNat, BitVec.toNat_ofNat, Nat.mod_eq_of_lt (by omega), Nat.mod_eq_of_lt (by omega)]
  have e3 : a * 256 ||| b = a * 256 + b := by
    have := Nat.shiftLeft_add_eq_or_of_lt (show b < 2 ^ 8 from hb) a
    rw [Nat.shiftLeft_eq] at this
    exact this.symm
  rw [e3]
  exact wrapU64 _ (by omega)
theorem uAt_is (t : ByteArray) (p : Nat) : ∀ k, k ≤ 8 → p + k ≤ t.size → ∃ U : Nat, uAt t p k = Int.ofNat U ∧ U < 256 ^ k ∧ beL U k = (t.data.toList.drop p).take k
  | 0, _, _ => ⟨0, rfl, by decide, by rw [List.take_zero]; rfl⟩
  | k + 1, h, hp => by
    obtain ⟨U, h1, h2, h3⟩ := uAt_is t p k (by omega) (by omega)
    have hU : U < 72057594037927936 := Nat.lt_of_lt_of_le h2 (Nat.le_trans (Nat.pow_le_pow_right (by decide) (show k ≤ 7 by omega)) (by decide))
    have hb : (bAt t (p + k)).toNat < 256 := (bAt t (p + k)).toNat_lt
    refine ⟨U * 256 + (bAt t (p + k)).toNat, ?_, ?_, ?_⟩
    · rw [uAt, h1, satB]; exact orN hU hb
    · rw [Nat.pow_succ]; omega
    · have hlt : k < (t.data.toList.drop p).length := by rw [List.length_drop]; show k < t.size - p; omega
      rw [beL_snoc _ _ hb, h3, List.take_succ_eq_append_getElem hlt]
      congr 2
      rw [List.getElem_drop, bAt_list, List.getElem?_eq_getElem (show p + k < t.data.toList.length from by show p + k < t.size; omega)]
      rw [UInt8.ofNat_toNat]; rfl
theorem beL_inj {u v k : Nat} (hu : u < 256 ^ k) (hv : v < 256 ^ k) (h : beL u k = beL v k) : u = v := by
  have := cmpL_be [] [] k u v hu hv
  rw [h] at this
  have h0 : cmpL (beL v k ++ []) (beL v k ++ []) = 0 := by
    have := cmpL_be [] [] k v v hv hv
    rw [if_neg (Nat.lt_irrefl v), if_neg (Nat.lt_irrefl v), cmpL_nn] at this
    exact this
  rw [h0] at this
  by_cases h1 : u < v
  · rw [if_pos h1] at this; cases this
  · rw [if_neg h1] at this
    by_cases h2 : v < u
    · rw [if_pos h2] at this; cases this
    · omega
theorem valR_enc {t : ByteArray} {p : Nat} {v : Val} {r : List UInt8} (hv : Fit v) (h : t.data.toList.drop p = encV v ++ r) : valR t p = ((v.k, v.n, v.s), p + (encV v).length, true) := by
  rcases right_is hv.right with rfl | ⟨n, hn, rfl⟩ | ⟨n, rfl⟩ | ⟨s, hs, rfl⟩
  · rw [enc_null] at h ⊢
    obtain ⟨h1, h2, h3⟩ := at_cons h
    exact valR_null h1
  · rw [enc_bool hn] at h ⊢
    obtain ⟨h1, h2, h3⟩ := at_cons h
    obtain ⟨h4, h5, h6⟩ := at_cons h3
    rw [valR_bool h1 h5, h4, UInt8.toNat_ofNat', Nat.mod_eq_of_lt (by omega)]; rfl
  · rw [enc_int, List.cons_append] at h
    rw [enc_int]
    obtain ⟨h1, h2, h3⟩ := at_cons h
    have hl := congrArg List.length h3
    rw [List.length_drop, List.length_append, beL_len] at hl
    have hsz : t.data.toList.length = t.size := rfl
    obtain ⟨U, e1, e2, e3⟩ := uAt_is t (p + 1) 8 (Nat.le_refl _) (by omega)
    rw [h3, List.take_left' (beL_len _ _)] at e3
    have e4 := beL_inj e2 (uOf_lt hv.i64) e3
    have hn := turn_back hv.i64
    rw [valR_int h1 (by omega), numAt, e1, e4, hn, List.length_cons, beL_len]
  · rw [enc_text, List.cons_append] at h
    rw [enc_text]
    obtain ⟨h1, h2, h3⟩ := at_cons h
    rw [List.append_assoc, List.cons_append, List.cons_append, List.nil_append] at h3
    have := scan_enc s.data.toList (p + 1) [] h3
    rw [valR_text h1 this, List.nil_append]
    simp only [List.length_cons, List.length_append, List.length_nil]
    congr 2
    omega
theorem readR_enc {t : ByteArray} : ∀ (rest : List Val) (p : Nat) (acc : List Val), (∀ v ∈ rest, Fit v) → t.data.toList.drop p = keyL rest → acc.length + rest.length ≤ 12 → readR t p acc = (acc ++ rest, true)
  | [], p, acc, _, h, _ => by
    have hl := congrArg List.length h
    rw [List.length_drop] at hl
    have hsz : t.data.toList.length = t.size := rfl
    have h0 : (keyL []).length = 0 := rfl
    rw [readR_end (by omega), List.append_nil]
  | v :: rest, p, acc, hv, h, hn => by
    rw [keyL_cons] at h
    have e := valR_enc (hv v (.head _)) h
    rw [List.length_cons] at hn
    have hp : p < t.size := by
      rw [encV, List.cons_append] at h
      exact (at_cons h).2.1
    have hg : goodAt t p acc = true := by
      rw [goodAt, e]
      have : (valOf (v.k, v.n, v.s)).right = true := (hv v (.head _)).right
      dsimp only
      rw [this, decide_eq_true (by omega)]; rfl
    rw [readR_next hp hg, e]
    have hd : t.data.toList.drop (p + (encV v).length) = keyL rest := by rw [← List.drop_drop, h, List.drop_left]
    rw [readR_enc rest _ _ (fun u hu => hv u (.tail _ hu)) hd (by rw [List.length_append]; simp only [List.length_cons, List.length_nil]; omega), List.append_assoc]
    rfl
/-! back -/
theorem scan_of {t : ByteArray} {s : ByteArray} {q : Nat} : ∀ (n j : Nat) (acc : List UInt8), t.size - j ≤ n → scan t j acc = (some s, q) → ∃ u : List UInt8, s.data.toList = acc ++ u ∧ t.data.toList.drop j = esc u ++ 0 :: 0 :: t.data.toList.drop q
  | n, j, acc, hn, h => by
    by_cases h0 : j + 1 < t.size
    · have d1 := at_drop (t := t) (p := j) (by omega)
      have d2 := at_drop (t := t) (p := j + 1) h0
      by_cases h1 : bAt t j = 0
      · by_cases h2 : bAt t (j + 1) = 0
        · rw [scan_some h0 h1 h2] at h
          simp only [Prod.mk.injEq, Option.some.injEq] at h
          obtain ⟨rfl, rfl⟩ := h
          exact ⟨[], by rw [List.append_nil], by rw [d1, d2, h1, h2]; rfl⟩
        · by_cases h3 : bAt t (j + 1) = 255
          · rw [scan_zero h0 h1 h3] at h
            match n with
            | 0 => omega
            | n + 1 =>
              obtain ⟨u, e1, e2⟩ := scan_of n (j + 2) (acc ++ [0]) (by omega) h
              exact ⟨0 :: u, by rw [e1, List.append_assoc]; rfl, by rw [d1, d2, h1, h3, e2, esc_0]; rfl⟩
          · rw [scan_bad h0 h1 h2 h3] at h; cases h
      · rw [scan_next h0 h1] at h
        match n with
        | 0 => omega
        | n + 1 =>
          obtain ⟨u, e1, e2⟩ := scan_of n (j + 1) (acc ++ [bAt t j]) (by omega) h
          exact ⟨bAt t j :: u, by rw [e1, List.append_assoc]; rfl, by rw [d1, e2, esc_n h1]; rfl⟩
    · rw [scan_end (by omega)] at h; cases h
theorem u8of (b : UInt8) : UInt8.ofNat b.toNat = b := UInt8.ofNat_toNat
theorem valR_of {t : ByteArray} {p q : Nat} {v : Int × Int × ByteArray} (hp : p < t.size) (h : valR t p = (v, q, true)) (hr : (valOf v).right = true) : Fit (valOf v) ∧ t.data.toList.drop p = encV (valOf v) ++ t.data.toList.drop q := by
  have d1 := at_drop hp
  by_cases h0 : bAt t p = 0
  · rw [valR_null h0] at h
    simp only [Prod.mk.injEq, and_true] at h
    obtain ⟨rfl, rfl⟩ := h
    exact ⟨⟨hr, by decide, by decide⟩, by rw [d1, h0]; exact congrArg (· ++ _) enc_null.symm⟩
  by_cases h1 : bAt t p = 1
  · by_cases h' : p + 1 < t.size
    · rw [valR_bool h1 h'] at h
      simp only [Prod.mk.injEq, and_true] at h
      obtain ⟨rfl, rfl⟩ := h
      have hb : (bAt t (p + 1)).toNat ≤ 1 := by
        rcases right_is hr with e | ⟨n, hn, e⟩ | ⟨n, e⟩ | ⟨s, hs, e⟩ <;> simp [valOf] at e
        omega
      have d2 := at_drop h'
      refine ⟨⟨hr, by show -9223372036854775808 ≤ Int.ofNat _; ((try simp only [Int.ofNat_eq_natCast] at *); omega), by show Int.ofNat _ ≤ 9223372036854775807; ((try simp only [Int.ofNat_eq_natCast] at *); omega)⟩, ?_⟩
      have := enc_bool hb
      rw [d1, d2, h1]
      refine Eq.trans ?_ (congrArg (· ++ _) this.symm)
      rw [u8of]; rfl
    · rw [valR_nobool h1 h'] at h; simp at h
  by_cases h2 : bAt t p = 2
  · by_cases h' : p + 9 ≤ t.size
    · rw [valR_int h2 h'] at h
      simp only [Prod.mk.injEq, and_true] at h
      obtain ⟨rfl, rfl⟩ := h
      obtain ⟨U, e1, e2, e3⟩ := uAt_is t (p + 1) 8 (Nat.le_refl _) (by omega)
      have e4 : U < 18446744073709551616 := e2
      obtain ⟨e5, e6⟩ := turn_of e4
      have hn : numAt t (p + 1) = prims.conv .i64 (prims.xor .u64 (Int.ofNat U) 9223372036854775808) := by rw [numAt, e1]
      rw [← hn] at e5 e6
      refine ⟨⟨hr, e5⟩, ?_⟩
      have := enc_int (numAt t (p + 1)) ⟨⟨[]⟩⟩
      refine Eq.trans ?_ (congrArg (· ++ _) this.symm)
      rw [e6, e3, d1, h2, List.cons_append, show p + 9 = p + 1 + 8 by omega, ← List.drop_drop (i := 8), List.take_append_drop]
    · rw [valR_noint h2 h'] at h; simp at h
  by_cases h3 : bAt t p = 3
  · cases hs : scan t (p + 1) [] with
    | mk o j =>
      cases o with
      | none => rw [valR_notext h3 hs] at h; simp at h
      | some s =>
        rw [valR_text h3 hs] at h
        simp only [Prod.mk.injEq, and_true] at h
        obtain ⟨rfl, rfl⟩ := h
        obtain ⟨u, e1, e2⟩ := scan_of t.size (p + 1) [] (by omega) hs
        rw [List.nil_append] at e1
        refine ⟨⟨hr, by show (-9223372036854775808 : Int) ≤ 0; decide, by show (0 : Int) ≤ 9223372036854775807; decide⟩, ?_⟩
        have := enc_text 0 s
        refine Eq.trans ?_ (congrArg (· ++ _) this.symm)
        rw [d1, h3, e2, e1]; simp
  · rw [valR_none h0 h1 h2 h3] at h; simp at h
theorem readR_of {t : ByteArray} {l : List Val} : ∀ (n p : Nat) (acc : List Val), t.size - p ≤ n → readR t p acc = (l, true) → ∃ rest, l = acc ++ rest ∧ (∀ v ∈ rest, Fit v) ∧ t.data.toList.drop p = keyL rest ∧ (acc.length ≤ 12 → l.length ≤ 12)
  | n, p, acc, hn, h => by
    by_cases hp : p < t.size
    · cases hg : goodAt t p acc with
      | false => rw [readR_bad hp hg] at h; simp at h
      | true =>
        rw [readR_next hp hg] at h
        rw [goodAt, Bool.and_eq_true, Bool.and_eq_true, decide_eq_true_eq] at hg
        obtain ⟨g1, g2, g3⟩ := hg
        have hrg := valR_range hp g1
        obtain ⟨f1, f2⟩ := valR_of (q := (valR t p).2.1) (v := (valR t p).1) hp (Prod.ext rfl (Prod.ext rfl g1)) g2
        match n with
        | 0 => omega
        | n + 1 =>
          obtain ⟨rest, e1, e2, e3, e4⟩ := readR_of n (valR t p).2.1 _ (by omega) h
          refine ⟨valOf (valR t p).1 :: rest, by rw [e1, List.append_assoc]; rfl, fun v hv => ?_, by rw [f2, e3]; rfl, fun _ => e4 (by rw [List.length_append]; simp only [List.length_cons, List.length_nil]; omega)⟩
          rcases List.mem_cons.1 hv with rfl | hv
          · exact f1
          · exact e2 v hv
    · rw [readR_end (by omega)] at h
      simp only [Prod.mk.injEq, and_true] at h
      subst h
      exact ⟨[], by rw [List.append_nil], by simp, by rw [List.drop_of_length_le (show t.data.toList.length ≤ p from Nat.le_of_not_lt hp)]; rfl, fun h => h⟩
theorem valsRight_iff {l : List Val} : valsRight l = true ↔ l.length ≤ 12 ∧ ∀ v ∈ l, v.right = true := by
  rw [valsRight, Bool.and_eq_true, decide_eq_true_eq, allTo_iff]
  refine and_congr_right fun _ => ⟨fun h v hv => ?_, fun h i hi => ?_⟩
  · obtain ⟨i, hi, rfl⟩ := List.getElem_of_mem hv
    have := h i hi
    rw [valAt, getD_at hi] at this
    exact this
  · rw [valAt, getD_at hi]; exact h _ (List.getElem_mem hi)
def keyBytes (l : List Val) : ByteArray := if valsRight l then ⟨⟨keyL l⟩⟩ else ⟨⟨[]⟩⟩
def Ints (l : List Val) : Prop := ∀ v ∈ l, I64 v.n
theorem fits {l : List Val} (hr : valsRight l = true) (hi : Ints l) : ∀ v ∈ l, Fit v := fun v hv => ⟨(valsRight_iff.1 hr).2 v hv, hi v hv⟩
/-- Read back. -/
theorem key_back {l : List Val} (hr : valsRight l = true) (hi : Ints l) (hs : (keyBytes l).size ≤ 20000) : keyRead (keyBytes l) = (l, 0) := by
  refine keyRead_ok (by omega) ?_
  have := readR_enc (t := keyBytes l) l 0 [] (fits hr hi) (by rw [List.drop_zero, keyBytes, ite_t hr]) (by have := (valsRight_iff.1 hr).1; simpa using this)
  rw [List.nil_append] at this
  exact this
theorem read_bytes {t : ByteArray} (h : (keyRead t).2 = 0) : keyBytes (keyRead t).1 = t := by
  by_cases hl : 20000 < t.size
  · rw [keyRead_long hl] at h; cases h
  · cases hr : readR t 0 [] with
    | mk l b =>
      cases b with
      | false => rw [keyRead_bad hl hr] at h; cases h
      | true =>
        rw [keyRead_ok hl hr]
        obtain ⟨rest, e1, e2, e3, e4⟩ := readR_of t.size 0 [] (by omega) hr
        rw [List.nil_append] at e1
        subst e1
        have hv : valsRight l = true := valsRight_iff.2 ⟨e4 (by simp), fun v hv => (e2 v hv).right⟩
        rw [keyBytes, ite_t hv, ← e3, List.drop_zero]
/-- In order. -/
theorem bytes_order {a b : List Val} (ha : valsRight a = true) (hb : valsRight b = true) (ia : Ints a) (ib : Ints b) : cmpS (keyBytes a) (keyBytes b) = cmpLs a b := by
  rw [cmpS_L, keyBytes, keyBytes, ite_t ha, ite_t hb]
  exact cmp_keys (fits ha ia) (fits hb ib)
theorem compare_anti {a b : List Val} (ia : Ints a) (ib : Ints b) : compare b a = - compare a b := by
  rw [compare, compare]
  cases ha : valsRight a with
  | false => simp
  | true =>
    cases hb : valsRight b with
    | false => simp
    | true =>
      show cmpLs b a = - cmpLs a b
      rw [← bytes_order ha hb ia ib, ← bytes_order hb ha ib ia, cmpS_L, cmpS_L, cmpL_anti]
/-- The bytes of right values are few. -/
theorem esc_len : ∀ l : List UInt8, (esc l).length ≤ 2 * l.length
  | [] => Nat.le_refl _
  | b :: r => by
    have := esc_len r
    rw [esc]; split <;> simp only [List.length_cons] <;> omega
theorem enc_len {v : Val} (h : v.right = true) : (encV v).length ≤ 403 := by
  rcases right_is h with rfl | ⟨n, hn, rfl⟩ | ⟨n, rfl⟩ | ⟨s, hs, rfl⟩
  · rw [enc_null]; decide
  · rw [enc_bool hn]; simp
  · rw [enc_int, List.length_cons, beL_len]; decide
  · rw [enc_text, List.length_cons, List.length_append]
    have := esc_len s.data.toList
    have h2 : s.data.toList.length = s.size := rfl
    simp only [List.length_cons, List.length_nil]
    omega
theorem keyL_len : ∀ {l : List Val}, (∀ v ∈ l, v.right = true) → (keyL l).length ≤ 403 * l.length
  | [], _ => Nat.le_refl _
  | v :: l, h => by
    have h1 := enc_len (h v (.head _))
    have h2 := keyL_len fun u hu => h u (.tail _ hu)
    rw [keyL_cons, List.length_append, List.length_cons]
    omega
theorem keyBytes_size (l : List Val) : (keyBytes l).size ≤ 4836 := by
  rw [keyBytes]
  split
  · rename_i h
    have h := valsRight_iff.1 h
    have := keyL_len h.2
    show (keyL l).length ≤ _
    omega
  · show 0 ≤ _
    omega
end Go.Proofs.YtemfaiabbonpnaaGreatDoor
