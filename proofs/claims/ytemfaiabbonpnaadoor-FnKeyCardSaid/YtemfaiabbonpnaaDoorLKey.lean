/- Functions of the program, each with what it returns, run by the evaluator; the conditions stand in the theorems. -/
import Derived.Test.YtemfaiabbonpnaaDoorLVal
namespace Go.Proofs.YtemfaiabbonpnaaDoor
open Go Go.Proofs.YtemfaiabbonpnaaDoorW Go.Proofs
set_option linter.unusedVariables false
set_option linter.unusedSimpArgs false
set_option maxRecDepth 100000
set_option maxHeartbeats 8000000
def bAt (t : ByteArray) (j : Nat) : UInt8 := (t[j]?).getD 0
theorem satB (t : ByteArray) (j : Nat) : prims.sat t (Int.ofNat j) = ((bAt t j).toNat : Int) := by
  show ((t[(Int.ofNat j).toNat]?).map fun b => (b.toNat : Int)).getD 0 = _
  rw [show (Int.ofNat j).toNat = j from rfl, bAt]
  cases t[j]? <;> rfl
def scan (t : ByteArray) (j : Nat) (acc : List UInt8) : Option ByteArray × Nat :=
  if h : j + 1 < t.size then
    if bAt t j ≠ 0 then scan t (j + 1) (acc ++ [bAt t j])
    else if bAt t (j + 1) = 0 then (some ⟨⟨acc⟩⟩, j + 2)
    else if bAt t (j + 1) = 255 then scan t (j + 2) (acc ++ [0])
    else (none, j)
  else (none, j)
termination_by t.size - j
theorem scan_end {t : ByteArray} {j : Nat} {acc : List UInt8} (h : t.size ≤ j + 1) : scan t j acc = (none, j) := by rw [scan, dif_neg (by omega)]
theorem scan_next {t : ByteArray} {j : Nat} {acc : List UInt8} (h : j + 1 < t.size) (h1 : bAt t j ≠ 0) : scan t j acc = scan t (j + 1) (acc ++ [bAt t j]) := by rw [scan, dif_pos h, if_pos h1]
theorem scan_some {t : ByteArray} {j : Nat} {acc : List UInt8} (h : j + 1 < t.size) (h1 : bAt t j = 0) (h2 : bAt t (j + 1) = 0) : scan t j acc = (some ⟨⟨acc⟩⟩, j + 2) := by rw [scan, dif_pos h, if_neg (by simp [h1]), if_pos h2]
theorem scan_zero {t : ByteArray} {j : Nat} {acc : List UInt8} (h : j + 1 < t.size) (h1 : bAt t j = 0) (h2 : bAt t (j + 1) = 255) : scan t j acc = scan t (j + 2) (acc ++ [0]) := by rw [scan, dif_pos h, if_neg (by simp [h1]), if_neg (by simp [h2]), if_pos h2]
theorem scan_bad {t : ByteArray} {j : Nat} {acc : List UInt8} (h : j + 1 < t.size) (h1 : bAt t j = 0) (h2 : bAt t (j + 1) ≠ 0) (h3 : bAt t (j + 1) ≠ 255) : scan t j acc = (none, j) := by rw [scan, dif_pos h, if_neg (by simp [h1]), if_neg h2, if_neg h3]
def uAt (t : ByteArray) (p : Nat) : Nat → Int
  | 0 => 0
  | k + 1 => prims.or .u64 (prims.shl .u64 (uAt t p k) 8) (prims.conv .u64 (prims.sat t (Int.ofNat (p + k))))
def numAt (t : ByteArray) (p : Nat) : Int := prims.conv .i64 (prims.xor .u64 (uAt t p 8) 9223372036854775808)
/-- A value read at a place: it, the place behind it, whether there is one. -/
def valR (t : ByteArray) (p : Nat) : (Int × Int × ByteArray) × Nat × Bool :=
  if bAt t p = 0 then ((0, 0, ⟨⟨[]⟩⟩), p + 1, true)
  else if bAt t p = 1 then (if p + 1 < t.size then ((1, ((bAt t (p + 1)).toNat : Int), ⟨⟨[]⟩⟩), p + 2, true) else ((1, 0, ⟨⟨[]⟩⟩), p + 1, false))
  else if bAt t p = 2 then (if p + 9 ≤ t.size then ((2, numAt t (p + 1), ⟨⟨[]⟩⟩), p + 9, true) else ((2, 0, ⟨⟨[]⟩⟩), p + 1, false))
  else if bAt t p = 3 then (match (scan t (p + 1) []).1 with
    | some s => ((3, 0, s), (scan t (p + 1) []).2, true)
    | none => ((3, 0, ⟨⟨[]⟩⟩), (scan t (p + 1) []).2, false))
  else ((((bAt t p).toNat : Int), 0, ⟨⟨[]⟩⟩), p + 1, false)
/-! in a text's end -/
theorem bAt_ext {t : ByteArray} {p j : Nat} : bAt (t.extract p t.size) j = bAt t (p + j) := by
  rw [bAt, bAt]
  by_cases h : p + j < t.size
  · rw [getElem?_pos (t.extract p t.size) j (by show j < (t.extract p t.size).size; rw [ByteArray.size_extract]; omega), getElem?_pos t (p + j) h, ByteArray.getElem_extract]
  · rw [getElem?_neg (t.extract p t.size) j (by show ¬ j < (t.extract p t.size).size; rw [ByteArray.size_extract]; omega), getElem?_neg t (p + j) h]
theorem scan_ext {t : ByteArray} {p : Nat} (hp : p ≤ t.size) : ∀ (n j : Nat) (acc : List UInt8), t.size - (p + j) ≤ n → (scan (t.extract p t.size) j acc).1 = (scan t (p + j) acc).1 ∧ p + (scan (t.extract p t.size) j acc).2 = (scan t (p + j) acc).2
  | n, j, acc, hn => by
    have hs : (t.extract p t.size).size = t.size - p := by rw [ByteArray.size_extract]; omega
    by_cases h : p + j + 1 < t.size
    · have h' : j + 1 < (t.extract p t.size).size := by omega
      by_cases h1 : bAt t (p + j) = 0
      · by_cases h2 : bAt t (p + j + 1) = 0
        · rw [scan_some h h1 h2, scan_some h' (by rw [bAt_ext]; exact h1) (by rw [bAt_ext]; exact h2)]
          exact ⟨rfl, by simp only; omega⟩
        · by_cases h3 : bAt t (p + j + 1) = 255
          · rw [scan_zero h h1 h3, scan_zero h' (by rw [bAt_ext]; exact h1) (by rw [bAt_ext]; exact h3)]
            match n with
            | 0 => omega
            | n + 1 => exact scan_ext hp n (j + 2) _ (by omega)
          · rw [scan_bad h h1 h2 h3, scan_bad h' (by rw [bAt_ext]; exact h1) (by rw [bAt_ext]; exact h2) (by rw [bAt_ext]; exact h3)]
            exact ⟨rfl, rfl⟩
      · rw [scan_next h h1, scan_next h' (by rw [bAt_ext]; exact h1), bAt_ext]
        match n with
        | 0 => omega
        | n + 1 => exact scan_ext hp n (j + 1) _ (by omega)
    · rw [scan_end (by omega), scan_end (by omega)]
      exact ⟨rfl, rfl⟩
theorem uAt_ext {t : ByteArray} {p : Nat} : ∀ (q k : Nat), uAt (t.extract p t.size) q k = uAt t (p + q) k
  | q, 0 => rfl
  | q, k + 1 => by rw [uAt, uAt, uAt_ext q k, satB, satB, bAt_ext, Nat.add_assoc]
theorem valR_ext {t : ByteArray} {p : Nat} (hp : p < t.size) : (valR (t.extract p t.size) 0).1 = (valR t p).1 ∧ p + (valR (t.extract p t.size) 0).2.1 = (valR t p).2.1 ∧ (valR (t.extract p t.size) 0).2.2 = (valR t p).2.2 := by
  have hs : (t.extract p t.size).size = t.size - p := by rw [ByteArray.size_extract]; omega
  have e0 : bAt (t.extract p t.size) 0 = bAt t p := bAt_ext
  have e1 : bAt (t.extract p t.size) (0 + 1) = bAt t (p + 1) := bAt_ext
  have e2 : numAt (t.extract p t.size) (0 + 1) = numAt t (p + 1) := by rw [numAt, numAt, uAt_ext]
  have e3 := scan_ext (t := t) (p := p) (by omega) t.size (0 + 1) [] (by omega)
  rw [show p + (0 + 1) = p + 1 from rfl] at e3
  unfold valR
  rw [e0, e1, e2, e3.1, ← e3.2, hs]
  by_cases h0 : bAt t p = 0
  · rw [if_pos h0, if_pos h0]; exact ⟨rfl, rfl, rfl⟩
  rw [if_neg h0, if_neg h0]
  by_cases h1 : bAt t p = 1
  · rw [if_pos h1, if_pos h1]
    by_cases h : p + 1 < t.size
    · rw [if_pos h, if_pos (show 0 + 1 < t.size - p by omega)]; exact ⟨rfl, rfl, rfl⟩
    · rw [if_neg h, if_neg (show ¬ 0 + 1 < t.size - p by omega)]; exact ⟨rfl, rfl, rfl⟩
  rw [if_neg h1, if_neg h1]
  by_cases h2 : bAt t p = 2
  · rw [if_pos h2, if_pos h2]
    by_cases h : p + 9 ≤ t.size
    · rw [if_pos h, if_pos (show 0 + 9 ≤ t.size - p by omega)]; exact ⟨rfl, rfl, rfl⟩
    · rw [if_neg h, if_neg (show ¬ 0 + 9 ≤ t.size - p by omega)]; exact ⟨rfl, rfl, rfl⟩
  rw [if_neg h2, if_neg h2]
  by_cases h3 : bAt t p = 3
  · rw [if_pos h3, if_pos h3]
    cases (scan t (p + 1) []).1 <;> exact ⟨rfl, rfl, rfl⟩
  · rw [if_neg h3, if_neg h3]; exact ⟨rfl, rfl, rfl⟩
theorem valR_null {t : ByteArray} {p : Nat} (h : bAt t p = 0) : valR t p = ((0, 0, ⟨⟨[]⟩⟩), p + 1, true) := by rw [valR, if_pos h]
theorem valR_bool {t : ByteArray} {p : Nat} (h : bAt t p = 1) (h1 : p + 1 < t.size) : valR t p = ((1, ((bAt t (p + 1)).toNat : Int), ⟨⟨[]⟩⟩), p + 2, true) := by rw [valR, h, if_neg (by decide), if_pos rfl, if_pos h1]
theorem valR_nobool {t : ByteArray} {p : Nat} (h : bAt t p = 1) (h1 : ¬ p + 1 < t.size) : valR t p = ((1, 0, ⟨⟨[]⟩⟩), p + 1, false) := by rw [valR, h, if_neg (by decide), if_pos rfl, if_neg h1]
theorem valR_int {t : ByteArray} {p : Nat} (h : bAt t p = 2) (h1 : p + 9 ≤ t.size) : valR t p = ((2, numAt t (p + 1), ⟨⟨[]⟩⟩), p + 9, true) := by rw [valR, h, if_neg (by decide), if_neg (by decide), if_pos rfl, if_pos h1]
theorem valR_noint {t : ByteArray} {p : Nat} (h : bAt t p = 2) (h1 : ¬ p + 9 ≤ t.size) : valR t p = ((2, 0, ⟨⟨[]⟩⟩), p + 1, false) := by rw [valR, h, if_neg (by decide), if_neg (by decide), if_pos rfl, if_neg h1]
theorem valR_text {t : ByteArray} {p j : Nat} {s : ByteArray} (h : bAt t p = 3) (h1 : scan t (p + 1) [] = (some s, j)) : valR t p = ((3, 0, s), j, true) := by rw [valR, h, if_neg (by decide), if_neg (by decide), if_neg (by decide), if_pos rfl, h1]
theorem valR_notext {t : ByteArray} {p j : Nat} (h : bAt t p = 3) (h1 : scan t (p + 1) [] = (none, j)) : valR t p = ((3, 0, ⟨⟨[]⟩⟩), j, false) := by rw [valR, h, if_neg (by decide), if_neg (by decide), if_neg (by decide), if_pos rfl, h1]
theorem valR_none {t : ByteArray} {p : Nat} (h0 : bAt t p ≠ 0) (h1 : bAt t p ≠ 1) (h2 : bAt t p ≠ 2) (h3 : bAt t p ≠ 3) : valR t p = ((((bAt t p).toNat : Int), 0, ⟨⟨[]⟩⟩), p + 1, false) := by rw [valR, if_neg h0, if_neg h1, if_neg h2, if_neg h3]
theorem byteI {b : UInt8} {n : Nat} (hn : n < 256) (h : (b.toNat : Int) = (n : Int)) : b = UInt8.ofNat n := UInt8.toNat_inj.1 (by rw [UInt8.toNat_ofNat']; omega)
theorem byteNe {b : UInt8} {n : Nat} (h : (b.toNat : Int) ≠ (n : Int)) : b ≠ UInt8.ofNat n ∨ 256 ≤ n := by
  by_cases hn : n < 256
  · exact .inl fun e => h (by rw [e, UInt8.toNat_ofNat']; omega)
  · exact .inr (by omega)
theorem convB {F : Prims} (hF : prims = F) (b : UInt8) : F.conv .i64 (b.toNat : Int) = (b.toNat : Int) := by
  subst hF; have := b.toNat_lt; exact wrap_i64 (by omega) (by omega)
abbrev V3 (v : Int × Int × ByteArray) : Bool × List AC := (true, [.y (yN v.1), .y (yN v.2.1), .y (yS v.2.2)])
abbrev Val2 (v : Int × Int × ByteArray) (n : Int) : Res := ⟨.tup [V3 v, (false, [.y (yN n)])], []⟩
abbrev Val3 (v : Int × Int × ByteArray) (n : Int) (b : Bool) : Res := ⟨.tup [V3 v, (false, [.y (yN n)]), (false, [.y (yB b)])], []⟩
def oneN (s : ByteArray) : Int := if (valR s 0).2.2 then Int.ofNat (valR s 0).2.1 else -1
theorem appOkK {F : Prims} (hF : prims = F) {xs ys : List (List Y)} (h : xs.length + ys.length ≤ 4294967296) : F.lenOk (F.iadd (F.llen xs) (F.llen ys)) = true := by
  subst hF; exact decide_eq_true (by show (xs.length : Int) + (ys.length : Int) ≤ 4294967296; omega)
theorem keyOne_ok (s : ByteArray) (hs : 0 < s.size) (hl : s.size ≤ 20000) : CallOK Tryd.prog 29 [aS s] (Val2 (valR s 0).1 (if (valR s 0).2.2 then Int.ofNat (valR s 0).2.1 else -1)) := by
  obtain ⟨w, hw⟩ : ∃ w, w = valR s 0 := ⟨_, rfl⟩
  rw [← hw]
  obtain ⟨M, hM⟩ := mapEx
  try simp only [hM]
  refine go Tryd.func29 rfl rfl rfl rfl fun pAdd pSub pMul pQuo pRem pAnd pOr pXor pAndNot pShl pShr pNeg pCompl pConv pLt pLe pEq pSlt pSle pSeq pCat pCatOk pSlen pSsub pSat pIadd pIsub pBnot pBeq pImin pImax pLlen pLsub pLapp pLset pLcopy pLenOk pBytes pRep hF Ca hC r hr => ?_
  cbv
  have es : ∀ j : Nat, pSat s (Int.ofNat j) = ((bAt s j).toNat : Int) := fun j => by
    have := satB s j
    rw [hF] at this
    exact this
  have el : pSlen s = Int.ofNat s.size := slenIs hF s
  refine brT (leSelf hF 0) (brT (mkLt hF (by rw [show _ = _ from el]; exact Int.ofNat_lt.2 hs)) ?_)
  obtain ⟨k, hk⟩ : ∃ k, k = pConv .i64 (pSat s 0) := ⟨_, rfl⟩
  rw [← hk]
  have hk' : k = ((bAt s 0).toNat : Int) := by rw [hk, show pSat s 0 = _ from es 0]; exact convB hF _
  refine brkI (fun h => ?_) (fun h0 => ?_) <;> try cbv
  · have h := (hk'.symm.trans (eqT hF h))
    have e := hw.trans (valR_null (byteI (n := 0) (by decide) h))
    rw [hr, e, hk', h]; rfl
  refine brkI (fun h => ?_) (fun h1 => ?_) <;> try cbv
  · have h := (hk'.symm.trans (eqT hF h))
    have hb := byteI (n := 1) (by decide) h
    refine brkI (fun h2 => ?_) (fun h2 => ?_) <;> try cbv
    · have h2 := ltT hF h2
      rw [el] at h2
      have e := hw.trans (valR_nobool hb (by ((try simp only [Int.ofNat_eq_natCast] at *); omega)))
      rw [hr, e, hk', h]; rfl
    · have h2 := ltF hF h2
      rw [el] at h2
      have h2 : 0 + 1 < s.size := by ((try simp only [Int.ofNat_eq_natCast] at *); omega)
      have e := hw.trans (valR_bool hb h2)
      refine brT (mkLe hF (by decide)) (brT (mkLt hF (by rw [show _ = _ from el]; exact Int.ofNat_lt.2 h2)) ?_)
      try cbv
      rw [hr, e, hk', h, show pSat s 1 = _ from es 1, show pConv .i64 _ = _ from convB hF _]; rfl
  refine brkI (fun h => ?_) (fun h2 => ?_) <;> try cbv
  · have h := (hk'.symm.trans (eqT hF h))
    have hb := byteI (n := 2) (by decide) h
    have hkk := h
    refine brkI (fun h2 => ?_) (fun h2 => ?_) <;> try cbv
    · have h2 := ltT hF h2
      rw [el] at h2
      have e := hw.trans (valR_noint hb (by ((try simp only [Int.ofNat_eq_natCast] at *); omega)))
      rw [hr, e, hk', h]; rfl
    have h2 := ltF hF h2
    rw [el] at h2
    have h2 : 0 + 9 ≤ s.size := by ((try simp only [Int.ofNat_eq_natCast] at *); omega)
    have e := hw.trans (valR_int hb h2)
    refine loop_u (α := Nat × Int) (fun a st => (st.sc 5 (.int .u64 a.2)).n 6 (Int.ofNat (a.1 + 1))) (fun a => a.1 ≤ 8 ∧ a.2 = uAt s 1 a.1) (fun a => 8 - a.1) (0, 0) rfl ⟨by dsimp only; omega, rfl⟩ (fun K' hK I a hi ih => ?_)
    obtain ⟨i, u⟩ := a
    obtain ⟨hi, hu⟩ := hi
    dsimp only at hi hu
    cbv
    refine brkI (fun h => ?_) (fun h => ?_) <;> try cbv
    · have hlt := ltT hF h
      have hlt : i < 8 := by ((try simp only [Int.ofNat_eq_natCast] at *); omega)
      have e1 : pAdd .i64 (Int.ofNat (i + 1)) 1 = Int.ofNat (i + 1 + 1) := add1Is hF (by omega)
      repeat' (first
        | (refine brF (mkNlt hF (by decide)) ?_; try cbv)
        | (refine brT (zeroLe hF (i + 1)) ?_; try cbv)
        | (refine brT (mkSilt hF (by omega)) ?_; try cbv))
      conv => arg 1; cbv
      rw [e1]
      have e2 : pOr .u64 (pShl .u64 u 8) (pConv .u64 (pSat s (Int.ofNat (i + 1)))) = uAt s 1 (i + 1) := by
        rw [uAt, ← hu, Nat.add_comm 1 i, hF]
      exact ih (i + 1, _) _ ⟨hlt, e2⟩ (by dsimp only; omega) rfl
    · have hge := ltF hF h
      have hge : i = 8 := by ((try simp only [Int.ofNat_eq_natCast] at *); omega)
      subst hge
      refine hK _ _ ?_
      cbv
      have e3 : pConv .i64 (pXor .u64 u 9223372036854775808) = numAt s (0 + 1) := by
        rw [numAt, hu, hF]
      rw [hr, e, hk', ← e3, hkk]; rfl
  refine brkI (fun h => ?_) (fun h3 => ?_) <;> try cbv
  · have h := (hk'.symm.trans (eqT hF h))
    have hb := byteI (n := 3) (by decide) h
    have hkk := h
    refine loop_u (α := Nat × List (List Y)) (fun a st => (st.n 8 (Int.ofNat a.1)).ob 7001 (.ar 1 a.2)) (fun a => (1 ≤ a.1 ∧ a.1 ≤ s.size) ∧ a.2.length ≤ a.1 ∧ ∃ acc, a.2 = bytesL acc ∧ scan s 1 [] = scan s a.1 acc) (fun a => s.size - a.1) (1, []) rfl ⟨by dsimp only; omega, by simp, [], rfl, rfl⟩ (fun K' hK I a hi ih => ?_)
    obtain ⟨j, zs⟩ := a
    obtain ⟨h1j, hzl, acc, hz, hsc⟩ := hi
    dsimp only at h1j hzl hz hsc
    cbv
    have e1 : pAdd .i64 (Int.ofNat j) 1 = Int.ofNat (j + 1) := add1Is hF (by omega)
    have e2 : pAdd .i64 (Int.ofNat (j + 1)) 1 = Int.ofNat (j + 2) := add1Is hF (by omega)
    have e3 : pAdd .i64 (Int.ofNat j) 2 = Int.ofNat (j + 2) := addNIs hF (j := j) (k := 2) (by omega)
    rw [e1]
    refine brkI (fun h => ?_) (fun h => ?_) <;> try cbv
    · have hs1 : j + 1 < s.size := siltT hF h
      try rw [e1]
      refine brT (zeroLe hF j) (brT (mkSilt hF (by omega)) ?_)
      try cbv
      have app : ∀ b : UInt8, pLapp zs [[.sc (.int .u8 (b.toNat : Int))]] = bytesL (acc ++ [b]) := fun b => by
        subst hz; rw [show pLapp (bytesL acc) [[.sc (.int .u8 (b.toNat : Int))]] = bytesL acc ++ [[.sc (.int .u8 (b.toNat : Int))]] from lappIs hF _ _, bytesL, bytesL, List.map_append]; rfl
      have ap0 : pLapp zs [[.sc (.int .u8 0)]] = bytesL (acc ++ [0]) := app 0
      have al : ∀ b, (bytesL (acc ++ [b])).length ≤ j + 1 := fun b => by
        have : zs.length = acc.length := by rw [hz, bytesL, List.length_map]
        rw [bytesL, List.length_map, List.length_append]; show acc.length + 1 ≤ _; omega
      refine brkI (fun h4 => ?_) (fun h4 => ?_) <;> try cbv
      · have b0 : bAt s j = 0 := byteI (n := 0) (by decide) ((es j).symm.trans (eqT hF h4))
        rw [e1]
        refine brT (zeroLe hF (j + 1)) (brT (mkSilt hF hs1) ?_)
        try cbv
        refine brkI (fun h5 => ?_) (fun h5 => ?_) <;> try cbv
        · have b1 : bAt s (j + 1) = 0 := byteI (n := 0) (by decide) ((es (j + 1)).symm.trans (eqT hF h5))
          have e := hw.trans (valR_text hb (hsc.trans (scan_some hs1 b0 b1)))
          refine ⟨⟨⟨acc⟩⟩, ⟨hz⟩, ?_⟩
          cbv
          refine hK _ _ ?_
          cbv
          rw [hr, e, hk', hkk, e3]; rfl
        · have b1 : bAt s (j + 1) ≠ 0 := (byteNe (n := 0) (fun h => eqF hF h5 ((es (j + 1)).trans h))).resolve_right (by decide)
          rw [e1]
          refine brT (zeroLe hF (j + 1)) (brT (mkSilt hF hs1) ?_)
          try cbv
          refine brkI (fun h6 => ?_) (fun h6 => ?_) <;> try cbv
          · have b2 : bAt s (j + 1) = 255 := byteI (n := 255) (by decide) ((es (j + 1)).symm.trans (eqT hF h6))
            repeat' (first
              | (refine brT (appOkK hF (by simp; omega)) ?_; try cbv))
            conv => arg 1; cbv
            rw [e1, e2]
            exact ih (j + 2, _) _ ⟨⟨by omega, by omega⟩, by dsimp only; rw [ap0]; have := al 0; omega, acc ++ [0], ap0, hsc.trans (scan_zero hs1 b0 b2)⟩ (by dsimp only; omega) rfl
          · have b2 : bAt s (j + 1) ≠ 255 := (byteNe (n := 255) (fun h => eqF hF h6 ((es (j + 1)).trans h))).resolve_right (by decide)
            have e := hw.trans (valR_notext hb (hsc.trans (scan_bad hs1 b0 b1 b2)))
            refine hK _ _ ?_
            cbv
            rw [hr, e, hk', hkk]; rfl
      · have b0 : bAt s j ≠ 0 := (byteNe (n := 0) (fun h => eqF hF h4 ((es j).trans h))).resolve_right (by decide)
        repeat' (first
          | (refine brT (zeroLe hF j) ?_; try cbv)
          | (refine brT (mkSilt hF (by omega)) ?_; try cbv)
          | (refine brT (appOkK hF (by simp; omega)) ?_; try cbv))
        conv => arg 1; cbv
        rw [e1]
        have a1 : pLapp zs [[.sc (.int .u8 (pSat s (Int.ofNat j)))]] = bytesL (acc ++ [bAt s j]) := by rw [es j]; exact app _
        exact ih (j + 1, _) _ ⟨⟨by omega, by omega⟩, by dsimp only; rw [a1]; exact al _, _, a1, hsc.trans (scan_next hs1 b0)⟩ (by dsimp only; omega) rfl
    · have hs1 : s.size ≤ j + 1 := siltF hF h
      have e := hw.trans (valR_notext hb (hsc.trans (scan_end hs1)))
      refine hK _ _ ?_
      cbv
      rw [hr, e, hk', hkk]; rfl
  · have n0 := (byteNe (n := 0) (fun h => eqF hF h0 (hk'.trans h))).resolve_right (by decide)
    have n1 := (byteNe (n := 1) (fun h => eqF hF h1 (hk'.trans h))).resolve_right (by decide)
    have n2 := (byteNe (n := 2) (fun h => eqF hF h2 (hk'.trans h))).resolve_right (by decide)
    have n3 := (byteNe (n := 3) (fun h => eqF hF h3 (hk'.trans h))).resolve_right (by decide)
    have e := hw.trans (valR_none n0 n1 n2 n3)
    rw [hr, e, hk']; rfl
theorem sVal1_ok (s : ByteArray) (p : Nat) (hp : p < s.size) (hl : s.size ≤ 20000) : CallOK Tryd.prog 46 [aS s, aN (Int.ofNat p)] (Val3 (valR s p).1 (Int.ofNat (valR s p).2.1) (valR s p).2.2) := by
  obtain ⟨w, hw⟩ : ∃ w, w = valR s p := ⟨_, rfl⟩
  rw [← hw]
  obtain ⟨M, hM⟩ := mapEx
  try simp only [hM]
  refine go Tryd.func46 rfl rfl rfl rfl fun pAdd pSub pMul pQuo pRem pAnd pOr pXor pAndNot pShl pShr pNeg pCompl pConv pLt pLe pEq pSlt pSle pSeq pCat pCatOk pSlen pSsub pSat pIadd pIsub pBnot pBeq pImin pImax pLlen pLsub pLapp pLset pLcopy pLenOk pBytes pRep hF Ca hC r hr => ?_
  cbv
  have es : ∀ j : Nat, pSat s (Int.ofNat j) = ((bAt s j).toNat : Int) := fun j => by
    have := satB s j
    rw [hF] at this
    exact this
  have el : pSlen s = Int.ofNat s.size := slenIs hF s
  have ep : pAdd .i64 (Int.ofNat p) 1 = Int.ofNat (p + 1) := add1Is hF (by omega)
  refine brT (zeroLe hF p) (brT (mkSilt hF hp) ?_)
  try cbv
  rw [ep]
  obtain ⟨k, hk⟩ : ∃ k, k = pConv .i64 (pSat s (Int.ofNat p)) := ⟨_, rfl⟩
  rw [← hk]
  have hk' : k = ((bAt s p).toNat : Int) := by rw [hk, es p]; exact convB hF _
  refine brkI (fun h => ?_) (fun h0 => ?_) <;> try cbv
  · have h := (hk'.symm.trans (eqT hF h))
    have e := hw.trans (valR_null (byteI (n := 0) (by decide) h))
    rw [hr, e, hk', h]; try rfl
  refine brkI (fun h => ?_) (fun h1 => ?_) <;> try cbv
  · have h := (hk'.symm.trans (eqT hF h))
    have hb := byteI (n := 1) (by decide) h
    refine brkI (fun h2 => ?_) (fun h2 => ?_) <;> try cbv
    · have h2 := leT hF h2
      rw [el] at h2
      have e := hw.trans (valR_nobool hb (by ((try simp only [Int.ofNat_eq_natCast] at *); omega)))
      rw [hr, e, hk', h]; try rfl
    · have h2 := leF hF h2
      rw [el] at h2
      have h2 : p + 1 < s.size := by ((try simp only [Int.ofNat_eq_natCast] at *); omega)
      have e := hw.trans (valR_bool hb h2)
      have ep2 : pAdd .i64 (Int.ofNat (p + 1)) 1 = Int.ofNat (p + 2) := add1Is hF (by omega)
      refine brT (zeroLe hF (p + 1)) (brT (mkSilt hF h2) ?_)
      try cbv
      rw [hr, e, hk', h, es (p + 1), show pConv .i64 _ = _ from convB hF _, ep2]; try rfl
  refine brkI (fun h => ?_) (fun h2 => ?_) <;> try cbv
  · have h := (hk'.symm.trans (eqT hF h))
    have hb := byteI (n := 2) (by decide) h
    have hkk := h
    have ep8 : pAdd .i64 (Int.ofNat (p + 1)) 8 = Int.ofNat (p + 9) := addNIs hF (j := p + 1) (k := 8) (by omega)
    rw [ep8]
    refine brkI (fun h2 => ?_) (fun h2 => ?_) <;> try cbv
    · have h2 := ltT hF h2
      rw [el] at h2
      have e := hw.trans (valR_noint hb (by ((try simp only [Int.ofNat_eq_natCast] at *); omega)))
      rw [hr, e, hk', h]; try rfl
    have h2 := ltF hF h2
    rw [el] at h2
    have h2 : p + 9 ≤ s.size := by ((try simp only [Int.ofNat_eq_natCast] at *); omega)
    have e := hw.trans (valR_int hb h2)
    refine loop_u (α := Nat × Int) (fun a st => (st.sc 8 (.int .u64 a.2)).n 9 (Int.ofNat a.1)) (fun a => a.1 ≤ 8 ∧ a.2 = uAt s (p + 1) a.1) (fun a => 8 - a.1) (0, 0) rfl ⟨by dsimp only; omega, rfl⟩ (fun K' hK I a hi ih => ?_)
    obtain ⟨i, u⟩ := a
    obtain ⟨hi, hu⟩ := hi
    dsimp only at hi hu
    cbv
    refine brkI (fun h => ?_) (fun h => ?_) <;> try cbv
    · have hlt := ltT hF h
      have hlt : i < 8 := by ((try simp only [Int.ofNat_eq_natCast] at *); omega)
      have e1 : pAdd .i64 (Int.ofNat i) 1 = Int.ofNat (i + 1) := add1Is hF (by omega)
      have ei : pAdd .i64 (Int.ofNat (p + 1)) (Int.ofNat i) = Int.ofNat (p + 1 + i) := addNIs hF (by omega)
      repeat' (first
        | (refine brF (mkNlt hF (by decide)) ?_; try cbv)
        | (rw [ei])
        | (refine brT (zeroLe hF (p + 1 + i)) ?_; try cbv)
        | (refine brT (mkSilt hF (by omega)) ?_; try cbv))
      conv => arg 1; cbv
      rw [e1]
      have e2 : pOr .u64 (pShl .u64 u 8) (pConv .u64 (pSat s (Int.ofNat (p + 1 + i)))) = uAt s (p + 1) (i + 1) := by
        rw [uAt, ← hu, hF]
      exact ih (i + 1, _) _ ⟨hlt, e2⟩ (by dsimp only; omega) rfl
    · have hge := ltF hF h
      have hge : i = 8 := by ((try simp only [Int.ofNat_eq_natCast] at *); omega)
      subst hge
      refine hK _ _ ?_
      cbv
      have e3 : pConv .i64 (pXor .u64 u 9223372036854775808) = numAt s (p + 1) := by
        rw [numAt, hu, hF]
      rw [hr, e, hk', ← e3, hkk, ep8]; try rfl
  refine brkI (fun h => ?_) (fun h3 => ?_) <;> try cbv
  · have h := (hk'.symm.trans (eqT hF h))
    have hb := byteI (n := 3) (by decide) h
    have hkk := h
    refine loop_u (α := Nat × List (List Y)) (fun a st => (st.n 1 (Int.ofNat a.1)).ob 10001 (.ar 1 a.2)) (fun a => (1 ≤ a.1 ∧ a.1 ≤ s.size) ∧ a.2.length ≤ a.1 ∧ ∃ acc, a.2 = bytesL acc ∧ scan s (p + 1) [] = scan s a.1 acc) (fun a => s.size - a.1) (p + 1, []) rfl ⟨by dsimp only; omega, by simp, [], rfl, rfl⟩ (fun K' hK I a hi ih => ?_)
    obtain ⟨j, zs⟩ := a
    obtain ⟨h1j, hzl, acc, hz, hsc⟩ := hi
    dsimp only at h1j hzl hz hsc
    cbv
    have e1 : pAdd .i64 (Int.ofNat j) 1 = Int.ofNat (j + 1) := add1Is hF (by omega)
    have e3 : pAdd .i64 (Int.ofNat j) 2 = Int.ofNat (j + 2) := addNIs hF (j := j) (k := 2) (by omega)
    rw [e1]
    refine brkI (fun h => ?_) (fun h => ?_) <;> try cbv
    · have hs1 : j + 1 < s.size := siltT hF h
      try rw [e1]
      refine brT (zeroLe hF j) (brT (mkSilt hF (by omega)) ?_)
      try cbv
      have app : ∀ b : UInt8, pLapp zs [[.sc (.int .u8 (b.toNat : Int))]] = bytesL (acc ++ [b]) := fun b => by
        subst hz; rw [show pLapp (bytesL acc) [[.sc (.int .u8 (b.toNat : Int))]] = bytesL acc ++ [[.sc (.int .u8 (b.toNat : Int))]] from lappIs hF _ _, bytesL, bytesL, List.map_append]; rfl
      have ap0 : pLapp zs [[.sc (.int .u8 0)]] = bytesL (acc ++ [0]) := app 0
      have al : ∀ b, (bytesL (acc ++ [b])).length ≤ j + 1 := fun b => by
        have : zs.length = acc.length := by rw [hz, bytesL, List.length_map]
        rw [bytesL, List.length_map, List.length_append]; show acc.length + 1 ≤ _; omega
      refine brkI (fun h4 => ?_) (fun h4 => ?_) <;> try cbv
      · have b0 : bAt s j = 0 := byteI (n := 0) (by decide) ((es j).symm.trans (eqT hF h4))
        rw [e1]
        refine brT (zeroLe hF (j + 1)) (brT (mkSilt hF hs1) ?_)
        try cbv
        refine brkI (fun h5 => ?_) (fun h5 => ?_) <;> try cbv
        · have b1 : bAt s (j + 1) = 0 := byteI (n := 0) (by decide) ((es (j + 1)).symm.trans (eqT hF h5))
          have e := hw.trans (valR_text hb (hsc.trans (scan_some hs1 b0 b1)))
          refine ⟨⟨⟨acc⟩⟩, ⟨hz⟩, ?_⟩
          cbv
          refine hK _ _ ?_
          cbv
          rw [hr, e, hk', hkk, e3]; try rfl
        · have b1 : bAt s (j + 1) ≠ 0 := (byteNe (n := 0) (fun h => eqF hF h5 ((es (j + 1)).trans h))).resolve_right (by decide)
          rw [e1]
          refine brT (zeroLe hF (j + 1)) (brT (mkSilt hF hs1) ?_)
          try cbv
          refine brkI (fun h6 => ?_) (fun h6 => ?_) <;> try cbv
          · have b2 : bAt s (j + 1) = 255 := byteI (n := 255) (by decide) ((es (j + 1)).symm.trans (eqT hF h6))
            repeat' (first
              | (refine brT (appOkK hF (by simp; omega)) ?_; try cbv))
            conv => arg 1; cbv
            rw [e3]
            exact ih (j + 2, _) _ ⟨⟨by omega, by omega⟩, by dsimp only; rw [ap0]; have := al 0; omega, acc ++ [0], ap0, hsc.trans (scan_zero hs1 b0 b2)⟩ (by dsimp only; omega) rfl
          · have b2 : bAt s (j + 1) ≠ 255 := (byteNe (n := 255) (fun h => eqF hF h6 ((es (j + 1)).trans h))).resolve_right (by decide)
            have e := hw.trans (valR_notext hb (hsc.trans (scan_bad hs1 b0 b1 b2)))
            refine hK _ _ ?_
            cbv
            rw [hr, e, hk', hkk]; try rfl
      · have b0 : bAt s j ≠ 0 := (byteNe (n := 0) (fun h => eqF hF h4 ((es j).trans h))).resolve_right (by decide)
        repeat' (first
          | (refine brT (zeroLe hF j) ?_; try cbv)
          | (refine brT (mkSilt hF (by omega)) ?_; try cbv)
          | (refine brT (appOkK hF (by simp; omega)) ?_; try cbv))
        conv => arg 1; cbv
        rw [e1]
        have a1 : pLapp zs [[.sc (.int .u8 (pSat s (Int.ofNat j)))]] = bytesL (acc ++ [bAt s j]) := by rw [es j]; exact app _
        exact ih (j + 1, _) _ ⟨⟨by omega, by omega⟩, by dsimp only; rw [a1]; exact al _, _, a1, hsc.trans (scan_next hs1 b0)⟩ (by dsimp only; omega) rfl
    · have hs1 : s.size ≤ j + 1 := siltF hF h
      have e := hw.trans (valR_notext hb (hsc.trans (scan_end hs1)))
      refine hK _ _ ?_
      cbv
      rw [hr, e, hk', hkk]; try rfl
  · have n0 := (byteNe (n := 0) (fun h => eqF hF h0 (hk'.trans h))).resolve_right (by decide)
    have n1 := (byteNe (n := 1) (fun h => eqF hF h1 (hk'.trans h))).resolve_right (by decide)
    have n2 := (byteNe (n := 2) (fun h => eqF hF h2 (hk'.trans h))).resolve_right (by decide)
    have n3 := (byteNe (n := 3) (fun h => eqF hF h3 (hk'.trans h))).resolve_right (by decide)
    have e := hw.trans (valR_none n0 n1 n2 n3)
    rw [hr, e, hk']; try rfl
/-! lists -/
theorem scan_range {t : ByteArray} : ∀ (n j : Nat) (acc : List UInt8), t.size - j ≤ n → j ≤ (scan t j acc).2 ∧ ((scan t j acc).1.isSome = true → (scan t j acc).2 ≤ t.size)
  | n, j, acc, hn => by
    by_cases h : j + 1 < t.size
    · by_cases h1 : bAt t j = 0
      · by_cases h2 : bAt t (j + 1) = 0
        · rw [scan_some h h1 h2]; exact ⟨by simp only; omega, fun _ => by simp only; omega⟩
        · by_cases h3 : bAt t (j + 1) = 255
          · rw [scan_zero h h1 h3]
            match n with
            | 0 => omega
            | n + 1 => have := scan_range (t := t) n (j + 2) (acc ++ [0]) (by omega); exact ⟨by omega, this.2⟩
          · rw [scan_bad h h1 h2 h3]; exact ⟨Nat.le_refl _, fun h => by cases h⟩
      · rw [scan_next h h1]
        match n with
        | 0 => omega
        | n + 1 => have := scan_range (t := t) n (j + 1) (acc ++ [bAt t j]) (by omega); exact ⟨by omega, this.2⟩
    · rw [scan_end (by omega)]; exact ⟨Nat.le_refl _, fun h => by cases h⟩
theorem valR_range {t : ByteArray} {p : Nat} (hp : p < t.size) (h : (valR t p).2.2 = true) : p < (valR t p).2.1 ∧ (valR t p).2.1 ≤ t.size := by
  have hs := scan_range (t := t) t.size (p + 1) [] (by omega)
  unfold valR at h ⊢
  by_cases h0 : bAt t p = 0
  · rw [if_pos h0]; exact ⟨by simp only; omega, by simp only; omega⟩
  rw [if_neg h0] at h ⊢
  by_cases h1 : bAt t p = 1
  · rw [if_pos h1] at h ⊢
    by_cases h' : p + 1 < t.size
    · rw [if_pos h']; exact ⟨by simp only; omega, by simp only; omega⟩
    · rw [if_neg h'] at h; cases h
  rw [if_neg h1] at h ⊢
  by_cases h2 : bAt t p = 2
  · rw [if_pos h2] at h ⊢
    by_cases h' : p + 9 ≤ t.size
    · rw [if_pos h']; exact ⟨by simp only; omega, by simp only; omega⟩
    · rw [if_neg h'] at h; cases h
  rw [if_neg h2] at h ⊢
  by_cases h3 : bAt t p = 3
  · rw [if_pos h3] at h ⊢
    cases hh : (scan t (p + 1) []).1 with
    | none => rw [hh] at h; cases h
    | some x => rw [hh] at hs; exact ⟨by simp only; omega, by simp only; exact hs.2 rfl⟩
  · rw [if_neg h3] at h; cases h
def valOf (v : Int × Int × ByteArray) : Val := ⟨v.1, v.2.1, v.2.2⟩
def goodAt (t : ByteArray) (p : Nat) (acc : List Val) : Bool := (valR t p).2.2 && ((valOf (valR t p).1).right && decide (acc.length < 12))
def readR (t : ByteArray) (p : Nat) (acc : List Val) : List Val × Bool :=
  if h : p < t.size then
    if h2 : goodAt t p acc = true then readR t (valR t p).2.1 (acc ++ [valOf (valR t p).1]) else (acc, false)
  else (acc, true)
termination_by t.size - p
decreasing_by
  have h3 : (valR t p).2.2 = true := by rw [goodAt, Bool.and_eq_true] at h2; exact h2.1
  have := valR_range h h3
  omega
theorem readR_end {t : ByteArray} {p : Nat} {acc : List Val} (h : t.size ≤ p) : readR t p acc = (acc, true) := by rw [readR, dif_neg (by omega)]
theorem readR_bad {t : ByteArray} {p : Nat} {acc : List Val} (h : p < t.size) (h2 : goodAt t p acc = false) : readR t p acc = (acc, false) := by rw [readR, dif_pos h, dif_neg (by rw [h2]; simp)]
theorem readR_next {t : ByteArray} {p : Nat} {acc : List Val} (h : p < t.size) (h2 : goodAt t p acc = true) : readR t p acc = readR t (valR t p).2.1 (acc ++ [valOf (valR t p).1]) := by rw [readR, dif_pos h, dif_pos h2]
theorem lappRowK {F : Prims} (hF : prims = F) {α : Type} {row : α → List Y} {l : List α} {xs : List (List Y)} (hx : xs = l.map row) (v : α) : F.lapp xs [row v] = (l ++ [v]).map row := by
  subst hF hx; show l.map row ++ [row v] = _; rw [List.map_append]; rfl
theorem sRead_ok (t : ByteArray) (hl : t.size ≤ 20000) : CallOK Tryd.prog 33 [aS t] ⟨.tup [(false, [.own 3 ((readR t 0 []).1.map Val.row)]), (false, [.y (yB (readR t 0 []).2)])], []⟩ := by
  obtain ⟨q, hq⟩ : ∃ q, q = (readR t 0 []).1.map Val.row := ⟨_, rfl⟩
  obtain ⟨b, hb⟩ : ∃ q, q = (readR t 0 []).2 := ⟨_, rfl⟩
  rw [← hq, ← hb]
  obtain ⟨M, hM⟩ := mapEx
  try simp only [hM]
  refine go Tryd.func33 rfl rfl rfl rfl fun pAdd pSub pMul pQuo pRem pAnd pOr pXor pAndNot pShl pShr pNeg pCompl pConv pLt pLe pEq pSlt pSle pSeq pCat pCatOk pSlen pSsub pSat pIadd pIsub pBnot pBeq pImin pImax pLlen pLsub pLapp pLset pLcopy pLenOk pBytes pRep hF Ca hC r hr => ?_
  cbv
  refine loop_u (α := Nat × List (List Y)) (fun a st => (st.n 5 (Int.ofNat a.1)).ob 4001 (.ar 3 a.2)) (fun a => a.1 ≤ t.size ∧ ∃ acc, a.2 = acc.map Val.row ∧ readR t 0 [] = readR t a.1 acc) (fun a => t.size - a.1) (0, []) rfl ⟨by dsimp only; omega, [], rfl, rfl⟩ (fun K' hK I a hi ih => ?_)
  obtain ⟨p, zs⟩ := a
  obtain ⟨hp, acc, hz, hrd⟩ := hi
  dsimp only at hp hz hrd
  have hzl : zs.length = acc.length := by rw [hz, List.length_map]
  cbv
  refine brkI (fun h => ?_) (fun h => ?_) <;> try cbv
  · have hs : p < t.size := siltT hF h
    have hv := sVal1_ok t p hs hl
    have hrg := valR_range hs
    have hnx := readR_next (acc := acc) hs
    have hbd := readR_bad (acc := acc) hs
    have hgd : goodAt t p acc = ((valR t p).2.2 && ((valOf (valR t p).1).right && decide (acc.length < 12))) := rfl
    obtain ⟨w, hw⟩ : ∃ w, w = valR t p := ⟨_, rfl⟩
    rw [← hw] at hv hrg hnx hgd
    obtain ⟨⟨k, n, s⟩, nx, ok⟩ := w
    clear hw
    dsimp only at hv hrg hnx hgd
    rw [show (valOf (k, n, s)).right = valueRight k n s from rfl] at hgd
    have hvr := sValueRight_ok k n s
    obtain ⟨vr, hvr'⟩ : ∃ v, v = valueRight k n s := ⟨_, rfl⟩
    rw [← hvr'] at hvr hgd
    refine callI hC hv ?_
    cbv
    have ez : pLlen zs = Int.ofNat acc.length := by rw [← hzl]; exact llenIs hF zs
    have bad : goodAt t p acc = false → q = zs ∧ b = false := fun h => by
      have := hrd.trans (hbd h)
      rw [hq, hb, this, hz]; exact ⟨rfl, rfl⟩
    refine brkI (fun h1 => ?_) (fun h1 => ?_) <;> try cbv
    · refine callB hC hvr (fun h2 => ?_) (fun h2 => ?_) <;> try cbv
      · refine brkI (fun h3 => ?_) (fun h3 => ?_) <;> try cbv
        · have h3 := leT hF h3
          rw [ez] at h3
          have := bad (by rw [hgd, decide_eq_false (p := acc.length < 12) (by ((try simp only [Int.ofNat_eq_natCast] at *); omega)), Bool.and_false, Bool.and_false])
          refine hK _ _ ?_
          cbv
          rw [hr, this.1, this.2]
        · have h3 := leF hF h3
          rw [ez] at h3
          have h3 : acc.length < 12 := by ((try simp only [Int.ofNat_eq_natCast] at *); omega)
          have hg : goodAt t p acc = true := by rw [hgd, h1, h2, decide_eq_true h3]; rfl
          refine brT (appOkK hF (by simp; omega)) ?_
          try cbv
          conv => arg 1; cbv
          have a1 : pLapp zs [[yN k, yN n, yS s]] = (acc ++ [valOf (k, n, s)]).map Val.row := lappRowK hF hz (valOf (k, n, s))
          have hr2 := hrg h1
          exact ih (nx, _) _ ⟨hr2.2, _, a1, hrd.trans (hnx hg)⟩ (by dsimp only; omega) rfl
      · have := bad (by rw [hgd, h2, Bool.false_and, Bool.and_false])
        refine hK _ _ ?_
        cbv
        rw [hr, this.1, this.2]
    · have := bad (by rw [hgd, h1, Bool.false_and])
      refine hK _ _ ?_
      cbv
      rw [hr, this.1, this.2]
  · have hs : p = t.size := Nat.le_antisymm hp (siltF hF h)
    subst hs
    have := hrd.trans (readR_end (Nat.le_refl _))
    refine hK _ _ ?_
    cbv
    rw [hr, hq, hb, this, hz]
/-- What a text's values are. -/
def keyRead (t : ByteArray) : List Val × Int :=
  if 20000 < t.size then ([], 2) else if (readR t 0 []).2 then ((readR t 0 []).1, 0) else ([], 3)
theorem keyRead_long {t : ByteArray} (h : 20000 < t.size) : keyRead t = ([], 2) := by rw [keyRead, if_pos h]
theorem keyRead_ok {t : ByteArray} {l : List Val} (h : ¬ 20000 < t.size) (h2 : readR t 0 [] = (l, true)) : keyRead t = (l, 0) := by rw [keyRead, if_neg h, h2]; rfl
theorem keyRead_bad {t : ByteArray} {l : List Val} (h : ¬ 20000 < t.size) (h2 : readR t 0 [] = (l, false)) : keyRead t = ([], 3) := by rw [keyRead, if_neg h, h2]; rfl
abbrev VOut (l : List (List Y)) (c : Int) : Res := ⟨.agg [.own 3 l, .y (yN c)], []⟩
theorem sKeyRead_ok (t : ByteArray) : CallOK Tryd.prog 14 [aS t] (VOut ((keyRead t).1.map Val.row) (keyRead t).2) := by
  have hc := fun h => sRead_ok t h
  have k1 := keyRead_long (t := t)
  have k2 := fun l => keyRead_ok (t := t) (l := l)
  have k3 := fun l => keyRead_bad (t := t) (l := l)
  obtain ⟨rd, hrd⟩ : ∃ w, w = readR t 0 [] := ⟨_, rfl⟩
  rw [← hrd] at hc k2 k3
  obtain ⟨l, b⟩ := rd
  dsimp only at hc
  obtain ⟨w, hw⟩ : ∃ w, w = keyRead t := ⟨_, rfl⟩
  rw [← hw] at k1 k2 k3 ⊢
  obtain ⟨o, c⟩ := w
  clear hw hrd
  dsimp only
  obtain ⟨xs, hx⟩ : ∃ xs, xs = l.map Val.row := ⟨_, rfl⟩
  obtain ⟨os, ho⟩ : ∃ xs, xs = o.map Val.row := ⟨_, rfl⟩
  rw [← hx] at hc
  rw [← ho]
  obtain ⟨M, hM⟩ := mapEx
  try simp only [hM]
  refine go Tryd.func14 rfl rfl rfl rfl fun pAdd pSub pMul pQuo pRem pAnd pOr pXor pAndNot pShl pShr pNeg pCompl pConv pLt pLe pEq pSlt pSle pSeq pCat pCatOk pSlen pSsub pSat pIadd pIsub pBnot pBeq pImin pImax pLlen pLsub pLapp pLset pLcopy pLenOk pBytes pRep hF Ca hC r hr => ?_
  cbv
  have el : pSlen t = Int.ofNat t.size := slenIs hF t
  refine brkI (fun h => ?_) (fun h => ?_) <;> try cbv
  · have h := ltT hF h
    rw [el] at h
    have := k1 (by ((try simp only [Int.ofNat_eq_natCast] at *); omega))
    rw [hr, ho, (Prod.mk.inj this).1, (Prod.mk.inj this).2]; rfl
  · have h := ltF hF h
    rw [el] at h
    have h : t.size ≤ 20000 := by ((try simp only [Int.ofNat_eq_natCast] at *); omega)
    refine callI hC (hc h) ?_
    cbv
    refine brkI (fun h1 => ?_) (fun h1 => ?_) <;> try cbv
    · have := k2 l (by omega) (by rw [h1])
      rw [hr, ho, (Prod.mk.inj this).1, (Prod.mk.inj this).2, hx]
    · have := k3 l (by omega) (by rw [h1])
      rw [hr, ho, (Prod.mk.inj this).1, (Prod.mk.inj this).2]; rfl
theorem ssubIsK {F : Prims} (hF : prims = F) (s : ByteArray) (a b : Nat) : F.ssub s (Int.ofNat a) (Int.ofNat b) = s.extract a b := by subst hF; rfl
theorem leSlenK {F : Prims} (hF : prims = F) {i : Nat} {s : ByteArray} (h : i ≤ s.size) : F.le (Int.ofNat i) (F.slen s) = true := mkLe hF (by rw [slenIs hF s]; exact Int.ofNat_le.2 h)
theorem ext_all (t : ByteArray) : t.extract 0 t.size = t := ByteArray.extract_zero_size
theorem ext_ext {t : ByteArray} {p j : Nat} : (t.extract p t.size).extract j (t.extract p t.size).size = t.extract (p + j) t.size := by
  have hs : (t.extract p t.size).size = t.size - p := by rw [ByteArray.size_extract]; omega
  refine ByteArray.ext_getElem ?_ ?_
  · simp only [ByteArray.size_extract]; omega
  · intro i h1 h2
    rw [ByteArray.getElem_extract, ByteArray.getElem_extract, ByteArray.getElem_extract]
    congr 1
    omega
theorem ext_nil {t : ByteArray} {p : Nat} (hp : p ≤ t.size) (h : t.extract p t.size = ⟨⟨[]⟩⟩) : p = t.size := by
  have := congrArg ByteArray.size h
  rw [ByteArray.size_extract] at this
  have e : (⟨⟨[]⟩⟩ : ByteArray).size = 0 := rfl
  omega
theorem iKeyRead_ok (t : ByteArray) (hl : t.size ≤ maxLen) : CallOK Tryd.prog 12 [aS t] (VOut ((keyRead t).1.map Val.row) (keyRead t).2) := by
  have k1 := keyRead_long (t := t)
  have k2 := fun l => keyRead_ok (t := t) (l := l)
  have k3 := fun l => keyRead_bad (t := t) (l := l)
  obtain ⟨w, hw⟩ : ∃ w, w = keyRead t := ⟨_, rfl⟩
  rw [← hw] at k1 k2 k3 ⊢
  obtain ⟨o, c⟩ := w
  clear hw
  dsimp only
  obtain ⟨os, ho⟩ : ∃ xs, xs = o.map Val.row := ⟨_, rfl⟩
  rw [← ho]
  have hlg := isLong_ok [t] (by simp)
  have hlg2 : ([t].any tooLong) = decide (20000 < t.size) := by rw [List.any_cons, List.any_nil, Bool.or_false]; rfl
  rw [hlg2] at hlg
  obtain ⟨M, hM⟩ := mapEx
  try simp only [hM]
  refine go Tryd.func12 rfl rfl rfl rfl fun pAdd pSub pMul pQuo pRem pAnd pOr pXor pAndNot pShl pShr pNeg pCompl pConv pLt pLe pEq pSlt pSle pSeq pCat pCatOk pSlen pSsub pSat pIadd pIsub pBnot pBeq pImin pImax pLlen pLsub pLapp pLset pLcopy pLenOk pBytes pRep hF Ca hC r hr => ?_
  cbv
  refine callB hC hlg (fun h => ?_) (fun h => ?_) <;> try cbv
  · have := k1 (of_decide_eq_true h)
    rw [hr, ho, (Prod.mk.inj this).1, (Prod.mk.inj this).2]; rfl
  have hsz := of_decide_eq_false h
  refine loop_u (α := ByteArray × List (List Y)) (fun a st => (st.str 0 a.1).ob 3001 (.ar 3 a.2)) (fun a => ∃ p, p ≤ t.size ∧ a.1 = t.extract p t.size ∧ ∃ acc, a.2 = acc.map Val.row ∧ acc.length ≤ 12 ∧ readR t 0 [] = readR t p acc) (fun a => a.1.size) (t, []) rfl ⟨0, Nat.zero_le _, (ext_all t).symm, [], rfl, Nat.zero_le _, rfl⟩ (fun K' hK I a hi ih => ?_)
  obtain ⟨u, zs⟩ := a
  obtain ⟨p, hp, hu, acc, hz, h12, hrd⟩ := hi
  dsimp only at hu hz
  have hzl : zs.length = acc.length := by rw [hz, List.length_map]
  have hus : u.size = t.size - p := by rw [hu, ByteArray.size_extract]; omega
  cbv
  refine brkI (fun h => ?_) (fun h => ?_) <;> try cbv
  · have hs : p = t.size := ext_nil hp (hu.symm.trans (seqT hF h))
    subst hs
    have := k2 acc (by omega) (hrd.trans (readR_end (Nat.le_refl _)))
    refine hK _ _ ?_
    cbv
    rw [hr, ho, (Prod.mk.inj this).1, (Prod.mk.inj this).2, hz]
  · have hs : p < t.size := by
      rcases Nat.lt_or_ge p t.size with h' | h'
      · exact h'
      · exact absurd (show u = ⟨⟨[]⟩⟩ by
          have : u.size = 0 := by omega
          cases u with | mk d => cases d with | mk l => simp [ByteArray.size] at this; rw [this]) (seqF hF h)
    have hv := keyOne_ok u (by omega) (by omega)
    have hx := valR_ext hs
    rw [← hu] at hx
    have hrg := valR_range hs
    have hnx := readR_next (acc := acc) hs
    have hbd := readR_bad (acc := acc) hs
    have hgd : goodAt t p acc = ((valR t p).2.2 && ((valOf (valR t p).1).right && decide (acc.length < 12))) := rfl
    obtain ⟨w, hw⟩ : ∃ w, w = valR t p := ⟨_, rfl⟩
    obtain ⟨w2, hw2⟩ : ∃ w, w = valR u 0 := ⟨_, rfl⟩
    rw [← hw] at hrg hnx hgd hx
    rw [← hw2] at hv hx
    obtain ⟨⟨k, n, s⟩, nx, ok⟩ := w
    obtain ⟨v2, nx2, ok2⟩ := w2
    clear hw hw2
    dsimp only at hv hrg hnx hgd hx
    obtain ⟨x1, x2, x3⟩ := hx
    subst x1 x3
    have hm1 : ok2 = true → (if ok2 = true then Int.ofNat nx2 else -1) = Int.ofNat nx2 := fun h => if_pos h
    have hm2 : ok2 = false → (if ok2 = true then Int.ofNat nx2 else -1) = -1 := fun h => by rw [h]; rfl
    obtain ⟨m, hm⟩ : ∃ m, m = (if ok2 = true then Int.ofNat nx2 else -1) := ⟨_, rfl⟩
    rw [← hm] at hm1 hm2 hv
    clear hm
    rw [show (valOf (k, n, s)).right = valueRight k n s from rfl] at hgd
    have hvr := iValueRight_ok k n s
    obtain ⟨vr, hvr'⟩ : ∃ v, v = valueRight k n s := ⟨_, rfl⟩
    rw [← hvr'] at hvr hgd
    refine callI hC hv ?_
    cbv
    have ez : pLlen zs = Int.ofNat acc.length := by rw [← hzl]; exact llenIs hF zs
    have bad : goodAt t p acc = false → o = [] ∧ c = 3 := fun h => by
      have := k3 acc (by omega) (hrd.trans (hbd h))
      exact Prod.mk.inj this
    cases ok2 with
    | false =>
      have := bad (by rw [hgd, Bool.false_and])
      refine brkI (fun h1 => ?_) (fun h1 => ?_) <;> try cbv
      · refine hK _ _ ?_
        cbv
        rw [hr, ho, this.1, this.2]; rfl
      · have := ltF hF h1; rw [hm2 rfl] at this; exact absurd this (by decide)
    | true =>
      have hr2 := hrg rfl
      rw [hm1 rfl]
      refine brkI (fun h1 => ?_) (fun h1 => ?_) <;> try cbv
      · exact absurd (ltT hF h1) (by ((try simp only [Int.ofNat_eq_natCast] at *); omega))
      refine callB hC hvr (fun h2 => ?_) (fun h2 => ?_) <;> try cbv
      · refine brkI (fun h3 => ?_) (fun h3 => ?_) <;> try cbv
        · have h3 := eqT hF h3
          rw [ez] at h3
          have := bad (by rw [hgd, decide_eq_false (p := acc.length < 12) (by ((try simp only [Int.ofNat_eq_natCast] at *); omega)), Bool.and_false, Bool.and_false])
          refine hK _ _ ?_
          cbv
          rw [hr, ho, this.1, this.2]; rfl
        · have h3 := eqF hF h3
          rw [ez] at h3
          have h3 : acc.length < 12 := by
            have : acc.length ≠ 12 := fun e => h3 (by rw [e]; rfl)
            omega
          have hg : goodAt t p acc = true := by rw [hgd, h2, decide_eq_true h3]; rfl
          repeat' (first
            | (refine brT (appOkK hF (by simp; omega)) ?_; try cbv)
            | (refine brT (zeroLe hF nx2) ?_; try cbv)
            | (refine brT (leSlenK hF (by omega)) ?_; try cbv)
            | (refine brT (leSelf hF _) ?_; try cbv))
          conv => arg 1; cbv
          have a1 : pLapp zs [[yN k, yN n, yS s]] = (acc ++ [valOf (k, n, s)]).map Val.row := lappRowK hF hz (valOf (k, n, s))
          have a2 : pSsub u (Int.ofNat nx2) (pSlen u) = t.extract nx t.size := by
            rw [show pSlen u = Int.ofNat u.size from slenIs hF u, ← x2, ← ext_ext, ← hu]; exact ssubIsK hF u nx2 u.size
          exact ih (_, _) _ ⟨nx, hr2.2, a2, _, a1, by rw [List.length_append]; exact h3, hrd.trans (hnx hg)⟩ (by dsimp only; rw [a2, ByteArray.size_extract]; omega) rfl
      · have := bad (by rw [hgd, h2, Bool.false_and, Bool.and_false])
        refine hK _ _ ?_
        cbv
        rw [hr, ho, this.1, this.2]; rfl
end Go.Proofs.YtemfaiabbonpnaaDoor
