/- Functions of the program, each with what it returns, run by the evaluator; the conditions stand in the theorems. -/
import Derived.Test.YtemfaiabbonpnaaGreatDoorLVal
namespace Go.Proofs.YtemfaiabbonpnaaGreatDoor
open Go Go.Proofs.YtemfaiabbonpnaaGreatDoorW Go.Proofs
set_option linter.unusedVariables false
set_option linter.unusedSimpArgs false
set_option maxRecDepth 100000
set_option maxHeartbeats 8000000
def bAt (t : ByteArray) (j : Nat) : UInt8 := (t[j]?).getD 0
theorem satB (t : ByteArray) (j : Nat) : prims.sat t (Int.ofNat j) = ((bAt t j).toNat : Int) := by
  show ((t[(Int.ofNat j).toNat]?).map fun b => (b.toNat : Int)).getD 0 = _
  rw [show (Int.ofNat j).toNat = j from rfl, bAt]
  cases t[j]? <;> rfl
def scan (t : ByteArray) (j : Nat) (acc : List UInt8) : Option ByteArray × Nat :=
  if h : j + 1 < t.size then
    if bAt t j ≠ 0 then scan t (j + 1) (acc ++ [bAt t j])
    else if bAt t (j + 1) = 0 then (some ⟨⟨acc⟩⟩, j + 2)
    else if bAt t (j + 1) = 255 then scan t (j + 2) (acc ++ [0])
    else (none, j)
  else (none, j)
termination_by t.size - j
theorem scan_end {t : ByteArray} {j : Nat} {acc : List UInt8} (h : t.size ≤ j + 1) : scan t j acc = (none, j) := by rw [scan, dif_neg (by omega)]
theorem scan_next {t : ByteArray} {j : Nat} {acc : List UInt8} (h : j + 1 < t.size) (h1 : bAt t j ≠ 0) : scan t j acc = scan t (j + 1) (acc ++ [bAt t j]) := by rw [scan, dif_pos h, if_pos h1]
theorem scan_some {t : ByteArray} {j : Nat} {acc : List UInt8} (h : j + 1 < t.size) (h1 : bAt t j = 0) (h2 : bAt t (j + 1) = 0) : scan t j acc = (some ⟨⟨acc⟩⟩, j + 2) := by rw [scan, dif_pos h, if_neg (by simp [h1]), if_pos h2]
theorem scan_zero {t : ByteArray} {j : Nat} {acc : List UInt8} (h : j + 1 < t.size) (h1 : bAt t j = 0) (h2 : bAt t (j + 1) = 255) : scan t j acc = scan t (j + 2) (acc ++ [0]) := by rw [scan, dif_pos h, if_neg (by simp [h1]), if_neg (by simp [h2]), if_pos h2]
theorem scan_bad {t : ByteArray} {j : Nat} {acc : List UInt8} (h : j + 1 < t.size) (h1 : bAt t j = 0) (h2 : bAt t (j + 1) ≠ 0) (h3 : bAt t (j + 1) ≠ 255) : scan t j acc = (none, j) := by rw [scan, dif_pos h, if_neg (by simp [h1]), if_neg h2, if_neg h3]
def uAt (t : ByteArray) (p : Nat) : Nat → Int
  | 0 => 0
  | k + 1 => prims.or .u64 (prims.shl .u64 (uAt t p k) 8) (prims.conv .u64 (prims.sat t (Int.ofNat (p + k))))
def numAt (t : ByteArray) (p : Nat) : Int := prims.conv .i64 (prims.xor .u64 (uAt t p 8) 9223372036854775808)
/-- A value read at a place: it, the place behind it, whether there is one. -/
def valR (t : ByteArray) (p : Nat) : (Int × Int × ByteArray) × Nat × Bool :=
  if bAt t p = 0 then ((0, 0, ⟨⟨[]⟩⟩), p + 1, true)
  else if bAt t p = 1 then (if p + 1 < t.size then ((1, ((bAt t (p + 1)).toNat : Int), ⟨⟨[]⟩⟩), p + 2, true) else ((1, 0, ⟨⟨[]⟩⟩), p + 1, false))
  else if bAt t p = 2 then (if p + 9 ≤ t.size then ((2, numAt t (p + 1), ⟨⟨[]⟩⟩), p + 9, true) else ((2, 0, ⟨⟨[]⟩⟩), p + 1, false))
  else if bAt t p = 3 then (match (scan t (p + 1) []).1 with
    | some s => ((3, 0, s), (scan t (p + 1) []).2, true)
    | none => ((3, 0, ⟨⟨[]⟩⟩), (scan t (p + 1) []).2, false))
  else ((((bAt t p).toNat : Int), 0, ⟨⟨[]⟩⟩), p + 1, false)
/-! in a text's end -/
theorem bAt_ext {t : ByteArray} {p j : Nat} : bAt (t.extract p t.size) j = bAt t (p + j) := by
  rw [bAt, bAt]
  by_cases h : p + j < t.size
  · rw [getElem?_pos (t.extract p t.size) j (by show j < (t.extract p t.size).size; rw [ByteArray.size_extract]; omega), getElem?_pos t (p + j) h, ByteArray.getElem_extract]
  · rw [getElem?_neg (t.extract p t.size) j (by show ¬ j < (t.extract p t.size).size; rw [ByteArray.size_extract]; omega), getElem?_neg t (p + j) h]
theorem scan_ext {t : ByteArray} {p : Nat} (hp : p ≤ t.size) : ∀ (n j : Nat) (acc : List UInt8), t.size - (p + j) ≤ n → (scan (t.extract p t.size) j acc).1 = (scan t (p + j) acc).1 ∧ p + (scan (t.extract p t.size) j acc).2 = (scan t (p + j) acc).2
  | n, j, acc, hn => by
    have hs : (t.extract p t.size).size = t.size - p := by rw [ByteArray.size_extract]; omega
    by_cases h : p + j + 1 < t.size
    · have h' : j + 1 < (t.extract p t.size).size := by omega
      by_cases h1 : bAt t (p + j) = 0
      · by_cases h2 : bAt t (p + j + 1) = 0
        · rw [scan_some h h1 h2, scan_some h' (by rw [bAt_ext]; exact h1) (by rw [bAt_ext]; exact h2)]
          exact ⟨rfl, by simp only; omega⟩
        · by_cases h3 : bAt t (p + j + 1) = 255
          · rw [scan_zero h h1 h3, scan_zero h' (by rw [bAt_ext]; exact h1) (by rw [bAt_ext]; exact h3)]
            match n with
            | 0 => omega
            | n + 1 => exact scan_ext hp n (j + 2) _ (by omega)
          · rw [scan_bad h h1 h2 h3, scan_bad h' (by rw [bAt_ext]; exact h1) (by rw [bAt_ext]; exact h2) (by rw [bAt_ext]; exact h3)]
            exact ⟨rfl, rfl⟩
      · rw [scan_next h h1, scan_next h' (by rw [bAt_ext]; exact h1), bAt_ext]
        match n with
        | 0 => omega
        | n + 1 => exact scan_ext hp n (j + 1) _ (by omega)
    · rw [scan_end (by omega), scan_end (by omega)]
      exact ⟨rfl, rfl⟩
theorem uAt_ext {t : ByteArray} {p : Nat} : ∀ (q k : Nat), uAt (t.extract p t.size) q k = uAt t (p + q) k
  | q, 0 => rfl
  | q, k + 1 => by rw [uAt, uAt, uAt_ext q k, satB, satB, bAt_ext, Nat.add_assoc]
theorem valR_ext {t : ByteArray} {p : Nat} (hp : p < t.size) : (valR (t.extract p t.size) 0).1 = (valR t p).1 ∧ p + (valR (t.extract p t.size) 0).2.1 = (valR t p).2.1 ∧ (valR (t.extract p t.size) 0).2.2 = (valR t p).2.2 := by
  have hs : (t.extract p t.size).size = t.size - p := by rw [ByteArray.size_extract]; omega
  have e0 : bAt (t.extract p t.size) 0 = bAt t p := bAt_ext
  have e1 : bAt (t.extract p t.size) (0 + 1) = bAt t (p + 1) := bAt_ext
  have e2 : numAt (t.extract p t.size) (0 + 1) = numAt t (p + 1) := by rw [numAt, numAt, uAt_ext]
  have e3 := scan_ext (t := t) (p := p) (by omega) t.size (0 + 1) [] (by omega)
  rw [show p + (0 + 1) = p + 1 from rfl] at e3
  unfold valR
  rw [e0, e1, e2, e3.1, ← e3.2, hs]
  by_cases h0 : bAt t p = 0
  · rw [if_pos h0, if_pos h0]; exact ⟨rfl, rfl, rfl⟩
  rw [if_neg h0, if_neg h0]
  by_cases h1 : bAt t p = 1
  · rw [if_pos h1, if_pos h1]
    by_cases h : p + 1 < t.size
    · rw [if_pos h, if_pos (show 0 + 1 < t.size - p by omega)]; exact ⟨rfl, rfl, rfl⟩
    · rw [if_neg h, if_neg (show ¬ 0 + 1 < t.size - p by omega)]; exact ⟨rfl, rfl, rfl⟩
  rw [if_neg h1, if_neg h1]
  by_cases h2 : bAt t p = 2
  · rw [if_pos h2, if_pos h2]
    by_cases h : p + 9 ≤ t.size
    · rw [if_pos h, if_pos (show 0 + 9 ≤ t.size - p by omega)]; exact ⟨rfl, rfl, rfl⟩
    · rw [if_neg h, if_neg (show ¬ 0 + 9 ≤ t.size - p by omega)]; exact ⟨rfl, rfl, rfl⟩
  rw [if_neg h2, if_neg h2]
  by_cases h3 : bAt t p = 3
  · rw [if_pos h3, if_pos h3]
    cases (scan t (p + 1) []).1 <;> exact ⟨rfl, rfl, rfl⟩
  · rw [if_neg h3, if_neg h3]; exact ⟨rfl, rfl, rfl⟩
theorem valR_null {t : ByteArray} {p : Nat} (h : bAt t p = 0) : valR t p = ((0, 0, ⟨⟨[]⟩⟩), p + 1, true) := by rw [valR, if_pos h]
theorem valR_bool {t : ByteArray} {p : Nat} (h : bAt t p = 1) (h1 : p + 1 < t.size) : valR t p = ((1, ((bAt t (p + 1)).toNat : Int), ⟨⟨[]⟩⟩), p + 2, true) := by rw [valR, h, if_neg (by decide), if_pos rfl, if_pos h1]
theorem valR_nobool {t : ByteArray} {p : Nat} (h : bAt t p = 1) (h1 : ¬ p + 1 < t.size) : valR t p = ((1, 0, ⟨⟨[]⟩⟩), p + 1, false) := by rw [valR, h, if_neg (by decide), if_pos rfl, if_neg h1]
theorem valR_int {t : ByteArray} {p : Nat} (h : bAt t p = 2) (h1 : p + 9 ≤ t.size) : valR t p = ((2, numAt t (p + 1), ⟨⟨[]⟩⟩), p + 9, true) := by rw [valR, h, if_neg (by decide), if_neg (by decide), if_pos rfl, if_pos h1]
theorem valR_noint {t : ByteArray} {p : Nat} (h : bAt t p = 2) (h1 : ¬ p + 9 ≤ t.size) : valR t p = ((2, 0, ⟨⟨[]⟩⟩), p + 1, false) := by rw [valR, h, if_neg (by decide), if_neg (by decide), if_pos rfl, if_neg h1]
theorem valR_text {t : ByteArray} {p j : Nat} {s : ByteArray} (h : bAt t p = 3) (h1 : scan t (p + 1) [] = (some s, j)) : valR t p = ((3, 0, s), j, true) := by rw [valR, h, if_neg (by decide), if_neg (by decide), if_neg (by decide), if_pos rfl, h1]
theorem valR_notext {t : ByteArray} {p j : Nat} (h : bAt t p = 3) (h1 : scan t (p + 1) [] = (none, j)) : valR t p = ((3, 0, ⟨⟨[]⟩⟩), j, false) := by rw [valR, h, if_neg (by decide), if_neg (by decide), if_neg (by decide), if_pos rfl, h1]
theorem valR_none {t : ByteArray} {p : Nat} (h0 : bAt t p ≠ 0) (h1 : bAt t p ≠ 1) (h2 : bAt t p ≠ 2) (h3 : bAt t p ≠ 3) : valR t p = ((((bAt t p).toNat : Int), 0, ⟨⟨[]⟩⟩), p + 1, false) := by rw [valR, if_neg h0, if_neg h1, if_neg h2, if_neg h3]
theorem byteI {b : UInt8} {n : Nat} (hn : n < 256) (h : (b.toNat : Int) = (n : Int)) : b = UInt8.ofNat n := UInt8.toNat_inj.1 (by rw [UInt8.toNat_ofNat']; omega)
theorem byteNe {b : UInt8} {n : Nat} (h : (b.toNat : Int) ≠ (n : Int)) : b ≠ UInt8.ofNat n ∨ 256 ≤ n := by
  by_cases hn : n < 256
  · exact .inl fun e => h (by rw [e, UInt8.toNat_ofNat']; omega)
  · exact .inr (by omega)
theorem convB {F : Prims} (hF : prims = F) (b : UInt8) : F.conv .i64 (b.toNat : Int) = (b.toNat : Int) := by
  subst hF; have := b.toNat_lt; exact wrap_i64 (by omega) (by omega)
abbrev V3 (v : Int × Int × ByteArray) : Bool × List AC := (true, [.y (yN v.1), .y (yN v.2.1), .y (yS v.2.2)])
abbrev Val2 (v : Int × Int × ByteArray) (n : Int) : Res := ⟨.tup [V3 v, (false, [.y (yN n)])], []⟩
abbrev Val3 (v : Int × Int × ByteArray) (n : Int) (b : Bool) : Res := ⟨.tup [V3 v, (false, [.y (yN n)]), (false, [.y (yB b)])], []⟩
def oneN (s : ByteArray) : Int := if (valR s 0).2.2 then Int.ofNat (valR s 0).2.1 else -1
theorem appOkK {F : Prims} (hF : prims = F) {xs ys : List (List Y)} (h : xs.length + ys.length ≤ 4294967296) : F.lenOk (F.iadd (F.llen xs) (F.llen ys)) = true := by
  subst hF; exact decide_eq_true (by show (xs.length : Int) + (ys.length : Int) ≤ 4294967296; omega)
theorem scan_range {t : ByteArray} : ∀ (n j : Nat) (acc : List UInt8), t.size - j ≤ n → j ≤ (scan t j acc).2 ∧ ((scan t j acc).1.isSome = true → (scan t j acc).2 ≤ t.size)
  | n, j, acc, hn => by
    by_cases h : j + 1 < t.size
    · by_cases h1 : bAt t j = 0
      · by_cases h2 : bAt t (j + 1) = 0
        · rw [scan_some h h1 h2]; exact ⟨by simp only; omega, fun _ => by simp only; omega⟩
        · by_cases h3 : bAt t (j + 1) = 255
          · rw [scan_zero h h1 h3]
            match n with
            | 0 => omega
            | n + 1 => have := scan_range (t := t) n (j + 2) (acc ++ [0]) (by omega); exact ⟨by omega, this.2⟩
          · rw [scan_bad h h1 h2 h3]; exact ⟨Nat.le_refl _, fun h => by cases h⟩
      · rw [scan_next h h1]
        match n with
        | 0 => omega
        | n + 1 => have := scan_range (t := t) n (j + 1) (acc ++ [bAt t j]) (by omega); exact ⟨by omega, this.2⟩
    · rw [scan_end (by omega)]; exact ⟨Nat.le_refl _, fun h => by cases h⟩
theorem valR_range {t : ByteArray} {p : Nat} (hp : p < t.size) (h : (valR t p).2.2 = true) : p < (valR t p).2.1 ∧ (valR t p).2.1 ≤ t.size := by
  have hs := scan_range (t := t) t.size (p + 1) [] (by omega)
  unfold valR at h ⊢
  by_cases h0 : bAt t p = 0
  · rw [if_pos h0]; exact ⟨by simp only; omega, by simp only; omega⟩
  rw [if_neg h0] at h ⊢
  by_cases h1 : bAt t p = 1
  · rw [if_pos h1] at h ⊢
    by_cases h' : p + 1 < t.size
    · rw [if_pos h']; exact ⟨by simp only; omega, by simp only; omega⟩
    · rw [if_neg h'] at h; cases h
  rw [if_neg h1] at h ⊢
  by_cases h2 : bAt t p = 2
  · rw [if_pos h2] at h ⊢
    by_cases h' : p + 9 ≤ t.size
    · rw [if_pos h']; exact ⟨by simp only; omega, by simp only; omega⟩
    · rw [if_neg h'] at h; cases h
  rw [if_neg h2] at h ⊢
  by_cases h3 : bAt t p = 3
  · rw [if_pos h3] at h ⊢
    cases hh : (scan t (p + 1) []).1 with
    | none => rw [hh] at h; cases h
    | some x => rw [hh] at hs; exact ⟨by simp only; omega, by simp only; exact hs.2 rfl⟩
  · rw [if_neg h3] at h; cases h
def valOf (v : Int × Int × ByteArray) : Val := ⟨v.1, v.2.1, v.2.2⟩
def goodAt (t : ByteArray) (p : Nat) (acc : List Val) : Bool := (valR t p).2.2 && ((valOf (valR t p).1).right && decide (acc.length < 12))
def readR (t : ByteArray) (p : Nat) (acc : List Val) : List Val × Bool :=
  if h : p < t.size then
    if h2 : goodAt t p acc = true then readR t (valR t p).2.1 (acc ++ [valOf (valR t p).1]) else (acc, false)
  else (acc, true)
termination_by t.size - p
decreasing_by
  have h3 : (valR t p).2.2 = true := by rw [goodAt, Bool.and_eq_true] at h2; exact h2.1
  have := valR_range h h3
  omega
theorem readR_end {t : ByteArray} {p : Nat} {acc : List Val} (h : t.size ≤ p) : readR t p acc = (acc, true) := by rw [readR, dif_neg (by omega)]
theorem readR_bad {t : ByteArray} {p : Nat} {acc : List Val} (h : p < t.size) (h2 : goodAt t p acc = false) : readR t p acc = (acc, false) := by rw [readR, dif_pos h, dif_neg (by rw [h2]; simp)]
theorem readR_next {t : ByteArray} {p : Nat} {acc : List Val} (h : p < t.size) (h2 : goodAt t p acc = true) : readR t p acc = readR t (valR t p).2.1 (acc ++ [valOf (valR t p).1]) := by rw [readR, dif_pos h, dif_pos h2]
theorem lappRowK {F : Prims} (hF : prims = F) {α : Type} {row : α → List Y} {l : List α} {xs : List (List Y)} (hx : xs = l.map row) (v : α) : F.lapp xs [row v] = (l ++ [v]).map row := by
  subst hF hx; show l.map row ++ [row v] = _; rw [List.map_append]; rfl
/-- What a text's values are. -/
def keyRead (t : ByteArray) : List Val × Int :=
  if 20000 < t.size then ([], 2) else if (readR t 0 []).2 then ((readR t 0 []).1, 0) else ([], 3)
theorem keyRead_long {t : ByteArray} (h : 20000 < t.size) : keyRead t = ([], 2) := by rw [keyRead, if_pos h]
theorem keyRead_ok {t : ByteArray} {l : List Val} (h : ¬ 20000 < t.size) (h2 : readR t 0 [] = (l, true)) : keyRead t = (l, 0) := by rw [keyRead, if_neg h, h2]; rfl
theorem keyRead_bad {t : ByteArray} {l : List Val} (h : ¬ 20000 < t.size) (h2 : readR t 0 [] = (l, false)) : keyRead t = ([], 3) := by rw [keyRead, if_neg h, h2]; rfl
abbrev VOut (l : List (List Y)) (c : Int) : Res := ⟨.agg [.own 3 l, .y (yN c)], []⟩
theorem ssubIsK {F : Prims} (hF : prims = F) (s : ByteArray) (a b : Nat) : F.ssub s (Int.ofNat a) (Int.ofNat b) = s.extract a b := by subst hF; rfl
theorem leSlenK {F : Prims} (hF : prims = F) {i : Nat} {s : ByteArray} (h : i ≤ s.size) : F.le (Int.ofNat i) (F.slen s) = true := mkLe hF (by rw [slenIs hF s]; exact Int.ofNat_le.2 h)
theorem ext_all (t : ByteArray) : t.extract 0 t.size = t := ByteArray.extract_zero_size
theorem ext_ext {t : ByteArray} {p j : Nat} : (t.extract p t.size).extract j (t.extract p t.size).size = t.extract (p + j) t.size := by
  have hs : (t.extract p t.size).size = t.size - p := by rw [ByteArray.size_extract]; omega
  refine ByteArray.ext_getElem ?_ ?_
  · simp only [ByteArray.size_extract]; omega
  · intro i h1 h2
    rw [ByteArray.getElem_extract, ByteArray.getElem_extract, ByteArray.getElem_extract]
    congr 1
    omega
theorem ext_nil {t : ByteArray} {p : Nat} (hp : p ≤ t.size) (h : t.extract p t.size = ⟨⟨[]⟩⟩) : p = t.size := by
  have := congrArg ByteArray.size h
  rw [ByteArray.size_extract] at this
  have e : (⟨⟨[]⟩⟩ : ByteArray).size = 0 := rfl
  omega
end Go.Proofs.YtemfaiabbonpnaaGreatDoor
