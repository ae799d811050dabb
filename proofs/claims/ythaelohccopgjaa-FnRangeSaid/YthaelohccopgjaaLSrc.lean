/- Functions of the program, each with what it returns, run by the evaluator; the conditions stand in the theorems. -/
import Derived.Test.YthaelohccopgjaaLNum
namespace Go.Proofs.Ythaelohccopgjaa
open Go Go.Proofs.YthaelohccopgjaaW Go.Proofs
set_option linter.unusedVariables false
set_option linter.unusedSimpArgs false
set_option maxRecDepth 100000
set_option maxHeartbeats 8000000
/-! Draws from bytes. -/
abbrev srcC (xs : List (List Y)) (a m z : Int) : List AC := [.y (.sl 1 xs), .y (yN a), .y (.sc (.int .u64 m)), .y (yN z)]
def byteN (l : List UInt8) (i : Nat) : Int := Int.ofNat (l.getD i 0).toNat
def mix1 (m : Int) : Int := prims.xor .u64 m (prims.shl .u64 m 13)
def mix2 (m : Int) : Int := prims.xor .u64 m (prims.shr .u64 m 7)
def mix3 (m : Int) : Int := prims.xor .u64 m (prims.shl .u64 m 17)
def nMix (m most : Int) : Int := if most ≤ 1 then m else mix3 (mix2 (mix1 m))
def nAt (l : List UInt8) (a : Nat) (most : Int) : Nat := if most ≤ 1 then a else if a < l.length then a + 1 else a
def nV (l : List UInt8) (a : Nat) : Int := if a < l.length then byteN l a else 0
def nRes (l : List UInt8) (a : Nat) (m most : Int) : Int := if most ≤ 1 then 0 else (prims.add .u64 (nV l a) (prims.shr .u64 (nMix m most) 20)) % most
theorem nRes_range (l : List UInt8) (a : Nat) (m most : Int) : 0 ≤ nRes l a m most ∧ nRes l a m most ≤ most - 1 ∨ nRes l a m most = 0 ∧ most ≤ 1 := by
  rw [nRes]
  split
  · rename_i h; exact Or.inr ⟨rfl, h⟩
  · left
    constructor
    · exact Int.emod_nonneg _ (by omega)
    · have := Int.emod_lt_of_pos (prims.add .u64 (nV l a) (prims.shr .u64 (nMix m most) 20)) (show 0 < most by omega); omega
theorem nAt_le (l : List UInt8) (a : Nat) (most : Int) (h : a ≤ l.length) : nAt l a most ≤ l.length := by
  rw [nAt]; split
  · exact h
  · split <;> omega
theorem n_ok (l : List UInt8) (a : Nat) (m z most : Int) (hl : l.length ≤ 1048576) (ha : a ≤ l.length) (hm : most ≤ 4611686018427387904) :
    CallOK Try.prog 62 [.io (srcC (bytesL l) (Int.ofNat a) m z), aN most] ⟨.c (.y (yN (nRes l a m most))), [srcC (bytesL l) (Int.ofNat (nAt l a most)) (nMix m most) z]⟩ := by
  obtain ⟨q, hq⟩ : ∃ q, q = nRes l a m most := ⟨_, rfl⟩
  obtain ⟨a', ha'⟩ : ∃ q, q = nAt l a most := ⟨_, rfl⟩
  obtain ⟨m', hm'⟩ : ∃ q, q = nMix m most := ⟨_, rfl⟩
  obtain ⟨xs, hx⟩ : ∃ xs, xs = bytesL l := ⟨_, rfl⟩
  have hxl : xs.length = l.length := by rw [hx, bytesL, List.length_map]
  have hget : ∀ (h : a < l.length), xs[a]? = some [.sc (.int .u8 (byteN l a))] := fun h => by
    rw [hx, bytesL, List.getElem?_map, List.getElem?_eq_getElem h, byteN, getD_at h]; rfl
  rw [← hq, ← ha', ← hm', ← hx]
  rw [nRes, ← hm'] at hq
  rw [nV] at hq
  rw [nAt] at ha'
  rw [nMix] at hm'
  obtain ⟨bv, hbv⟩ : ∃ b, b = byteN l a := ⟨_, rfl⟩
  have hb : 0 ≤ bv ∧ bv < 256 := by rw [hbv, byteN]; have := (l.getD a 0).toNat_lt; constructor <;> ((try simp only [Int.ofNat_eq_natCast] at *); omega)
  simp only [← hbv] at hget hq
  clear hx
  obtain ⟨M, hM⟩ := mapEx
  try simp only [hM]
  refine go Try.func62 rfl rfl rfl rfl fun pAdd pSub pMul pQuo pRem pAnd pOr pXor pAndNot pShl pShr pNeg pCompl pConv pLt pLe pEq pSlt pSle pSeq pCat pCatOk pSlen pSsub pSat pIadd pIsub pBnot pBeq pImin pImax pLlen pLsub pLapp pLset pLcopy pLenOk pBytes pRep hF Ca hC r hr => ?_
  cbv
  refine brkI (fun h => ?_) (fun h => ?_) <;> try cbv
  · have h := leT hF h
    rw [if_pos h] at hq ha' hm'
    rw [hq, ha', hm'] at hr
    exact hr.symm
  have h := leF hF h
  have hn : ¬ most ≤ 1 := by omega
  rw [if_neg hn] at hq ha' hm'
  have em : pXor .u64 (pXor .u64 (pXor .u64 m (pShl .u64 m 13)) (pShr .u64 (pXor .u64 m (pShl .u64 m 13)) 7)) (pShl .u64 (pXor .u64 (pXor .u64 m (pShl .u64 m 13)) (pShr .u64 (pXor .u64 m (pShl .u64 m 13)) 7)) 17) = m' := by
    rw [hm', mix3, mix2, mix1, hF]
  have g0 : ∀ x, pLt x 0 = false → True := fun _ _ => trivial
  have el : pLlen xs = Int.ofNat l.length := (llenIs hF xs).trans (by rw [hxl]; rfl)
  rw [el]
  have ec : pConv .u64 most = most := by
    have : prims.conv .u64 most = most := (wrap_u64 _).trans (by omega)
    rw [hF] at this; exact this
  have fin : ∀ v, nV l a = v → pConv .i64 (pRem .u64 (pAdd .u64 v (pShr .u64 m' 20)) (pConv .u64 most)) = q := fun v hv => by
    have hpos : 0 ≤ prims.add .u64 v (prims.shr .u64 m' 20) := by
      show 0 ≤ IntKind.u64.wrap _
      rw [wrap_u64]; omega
    have e1 : prims.rem .u64 (prims.add .u64 v (prims.shr .u64 m' 20)) most = prims.add .u64 v (prims.shr .u64 m' 20) % most := Int.tmod_eq_emod_of_nonneg hpos
    have b1 := Int.emod_nonneg (prims.add .u64 v (prims.shr .u64 m' 20)) (show most ≠ 0 by omega)
    have b2 := Int.emod_lt_of_pos (prims.add .u64 v (prims.shr .u64 m' 20)) (show 0 < most by omega)
    have e2 : prims.conv .i64 (prims.add .u64 v (prims.shr .u64 m' 20) % most) = prims.add .u64 v (prims.shr .u64 m' 20) % most := wrap_i64 (by omega) (by omega)
    have e3 : q = prims.add .u64 v (prims.shr .u64 m' 20) % most := by rw [hq, ← hv, nV, ← hbv]
    rw [ec]
    have t := (congrArg (prims.conv .i64) e1).trans (e2.trans e3.symm)
    rw [hF] at t
    exact t
  refine brkI (fun h1 => ?_) (fun h1 => ?_) <;> try cbv
  · have h1 := ltT hF h1
    have hs : a < l.length := by ((try simp only [Int.ofNat_eq_natCast] at *); omega)
    rw [if_pos hs] at ha'
    have hnv : nV l a = bv := by rw [nV, if_pos hs, hbv]
    refine ⟨[.sc (.int .u8 bv)], ⟨Int.natCast_nonneg _, hget hs⟩, ?_⟩
    cbv
    have ecb : pConv .u64 bv = bv := by
      have : prims.conv .u64 bv = bv := (wrap_u64 _).trans (by omega)
      rw [hF] at this; exact this
    have e1 : pAdd .i64 (Int.ofNat a) 1 = Int.ofNat (a + 1) := add1Is hF (by omega)
    refine brF (mkNlt hF (by decide)) ?_
    try cbv
    refine brF (mkNlt hF (by decide)) ?_
    try cbv
    refine brF (mkNlt hF (by decide)) ?_
    try cbv
    rw [em]
    refine brF (mkNlt hF (by decide)) ?_
    try cbv
    refine brF (mkNe hF (by rw [ec]; omega)) ?_
    try cbv
    rw [ecb, e1, fin bv hnv]
    rw [ha'] at hr
    exact hr.symm
  · have h1 := ltF hF h1
    have hs : ¬ a < l.length := by ((try simp only [Int.ofNat_eq_natCast] at *); omega)
    rw [if_neg hs] at ha'
    have hnv : nV l a = 0 := by rw [nV, if_neg hs]
    refine brF (mkNlt hF (by decide)) ?_
    try cbv
    refine brF (mkNlt hF (by decide)) ?_
    try cbv
    refine brF (mkNlt hF (by decide)) ?_
    try cbv
    rw [em]
    refine brF (mkNlt hF (by decide)) ?_
    try cbv
    refine brF (mkNe hF (by rw [ec]; omega)) ?_
    try cbv
    rw [fin 0 hnv]
    rw [ha'] at hr
    exact hr.symm
end Go.Proofs.Ythaelohccopgjaa
