/- Functions of the program, each with what it returns, run by the evaluator; the conditions stand in the theorems. -/
import Derived.Test.YthaelohccopgjaaTab
namespace Go.Proofs.Ythaelohccopgjaa
open Go Go.Proofs.YthaelohccopgjaaW Go.Proofs
set_option linter.unusedVariables false
set_option linter.unusedSimpArgs false
set_option maxRecDepth 100000
set_option maxHeartbeats 8000000
def regBit (r : Int) : Int := if prims.eq (prims.and .u32 r 1) 1 then prims.xor .u32 (prims.shr .u32 r 1) 3988292384 else prims.shr .u32 r 1
def regBits (r : Int) : Nat → Int
  | 0 => r
  | k + 1 => regBit (regBits r k)
def regByte (r c : Int) : Int := regBits (prims.xor .u32 r (prims.conv .u32 c)) 8
def reg (r : Int) (s : ByteArray) : Nat → Int
  | 0 => r
  | i + 1 => regByte (reg r s i) (prims.sat s i)
def tooLong (s : ByteArray) : Bool := decide (20000 < s.size)
def crcOf (s : ByteArray) : Int := if tooLong s then 0 else prims.conv .i64 (prims.xor .u32 (reg 4294967295 s s.size) 4294967295)
theorem isLong_ok (ts : List ByteArray) (hl : ts.length ≤ 1000) : CallOK Try.prog 41 [.c (.y (.sl 1 (ts.map fun s => [yS s])))] (B (ts.any tooLong)) := by
  obtain ⟨xs, hx⟩ : ∃ xs, xs = ts.map fun s => [yS s] := ⟨_, rfl⟩
  rw [← hx]
  obtain ⟨M, hM⟩ := mapEx
  try simp only [hM]
  refine go Try.func41 rfl rfl rfl rfl fun pAdd pSub pMul pQuo pRem pAnd pOr pXor pAndNot pShl pShr pNeg pCompl pConv pLt pLe pEq pSlt pSle pSeq pCat pCatOk pSlen pSsub pSat pIadd pIsub pBnot pBeq pImin pImax pLlen pLsub pLapp pLset pLcopy pLenOk pBytes pRep hF Ca hC r hr => ?_
  cbv
  refine loop_at (α := Nat) (fun a => ⟨[(5, .c (.y (.sl 1 xs))), (6, .c (.y (.sc (.int .i64 (pLlen xs))))), (7, .c (.y (.sc (.int .i64 a))))], []⟩)
    (fun a => a ≤ ts.length ∧ (ts.take a).any tooLong = false) (fun a => ts.length - a) 0 rfl ⟨by omega, rfl⟩ (fun I i hi ih => ?_)
  obtain ⟨hi, hq⟩ := hi
  cbv
  refine brkI (fun h => ?_) (fun h => ?_) <;> try cbv
  · have hs : i < ts.length := by cases hF; subst hx; have := Int.ofNat_lt.1 (lt_t h); rwa [List.length_map] at this
    obtain ⟨u, hu⟩ : ∃ u, u = ts[i] := ⟨_, rfl⟩
    refine lget (x := [yS u]) (by rw [hx, hu, List.getElem?_map, List.getElem?_eq_getElem hs]; rfl) ?_
    cbv
    have e1 : pAdd .i64 (Int.ofNat i) 1 = Int.ofNat (i + 1) := by cases hF; exact add1 (by omega)
    have e0 : (ts.take (i + 1)).any tooLong = tooLong u := by rw [List.take_succ_eq_append_getElem hs, List.any_append, hq, hu]; simp
    refine brkI (fun h1 => ?_) (fun h1 => ?_) <;> try cbv
    · have h' : tooLong u = true := by cases hF; exact decide_eq_true (Int.ofNat_lt.1 (lt_t h1))
      have : ts.any tooLong = true := List.any_eq_true.2 ⟨u, hu ▸ List.getElem_mem hs, h'⟩
      rw [hr, this]
    · have h' : tooLong u = false := by cases hF; exact decide_eq_false (Nat.not_lt.2 (Int.ofNat_le.1 (lt_f h1)))
      conv => arg 1; cbv
      rw [e1]
      exact ih (i + 1) ⟨hs, by rw [e0, h']⟩ (by omega)
  · have hs : i = ts.length := by cases hF; subst hx; have := Int.ofNat_le.1 (lt_f h); rw [List.length_map] at this; exact Nat.le_antisymm hi this
    rw [hr]
    subst hs
    rw [List.take_length] at hq
    rw [hq]
def crcMore (c : Int) (s : ByteArray) : Int := if tooLong s || !(decide (0 ≤ c) && decide (c ≤ 4294967295)) then 0 else prims.conv .i64 (prims.xor .u32 (reg (prims.xor .u32 (prims.conv .u32 c) 4294967295) s s.size) 4294967295)
def four (n : Int) : ByteArray := ⟨⟨[lastByte n, lastByte (prims.shr .i64 n 8), lastByte (prims.shr .i64 n 16), lastByte (prims.shr .i64 n 24)]⟩⟩
def crcBare (s : ByteArray) : Int := prims.xor .u32 (reg 4294967295 s s.size) 4294967295
def sealOf (s : ByteArray) : ByteArray := if 19996 < s.size then ⟨⟨[]⟩⟩ else s ++ four (crcBare s)
abbrev TO (t : ByteArray) (a c : Int) : Res := ⟨.agg [.y (yS t), .y (yN a), .y (yN c)], []⟩
def bodyOf (s : ByteArray) : ByteArray := s.extract 0 (s.size - 4)
def sumRight (s : ByteArray) : Bool := (bodyOf s ++ four (crcBare (bodyOf s))).toList == s.toList
def unText (s : ByteArray) : ByteArray := if 20000 < s.size then ⟨⟨[]⟩⟩ else if s.size < 4 then ⟨⟨[]⟩⟩ else if sumRight s then bodyOf s else ⟨⟨[]⟩⟩
def unCode (s : ByteArray) : Int := if 20000 < s.size then 2 else if s.size < 4 then 4 else if sumRight s then 0 else 5
theorem sumSplit (s : ByteArray) (h : 4 ≤ s.size) : sumRight s = ((four (crcBare (bodyOf s))).toList == (s.extract (s.size - 4) s.size).toList) := by
  rw [sumRight, seq_is, seq_is, Bool.eq_iff_iff, decide_eq_true_iff, decide_eq_true_iff]
  have e : s = bodyOf s ++ s.extract (s.size - 4) s.size := by
    rw [bodyOf, ByteArray.extract_append_extract, Nat.min_eq_left (by omega), Nat.max_eq_right (by omega), ByteArray.extract_zero_size]
  conv => lhs; rhs; rw [e]
  exact ByteArray.append_right_inj _
def less (left : Int) (s : ByteArray) : Int := if left < s.size then -1 else left - s.size
theorem less_le {left : Int} (s : ByteArray) (h : ¬ less left s < 0) : 0 ≤ less left s ∧ less left s ≤ left := by
  unfold less at *
  split at h <;> rename_i h1
  · exact absurd h (by decide)
  · rw [if_neg h1]; omega
end Go.Proofs.Ythaelohccopgjaa
