/- Functions of the program, each with what it returns, run by the evaluator; the conditions stand in the theorems. -/
import Derived.Test.YtngnflfjacappaaLGet
namespace Go.Proofs.Ytngnflfjacappaa
open Go Go.Proofs.YtngnflfjacappaaW Go.Proofs
set_option linter.unusedVariables false
set_option linter.unusedSimpArgs false
set_option maxRecDepth 100000
set_option maxHeartbeats 8000000
theorem unf_i64 {u : Int} (h0 : 0 ≤ u) (h1 : u < 18446744073709551616) : I64 (unf u) := by
  unfold unf; split <;> constructor <;> omega
/-- What is read is a number of 64 bits; the place behind it lies in the text. -/
theorem numGo_facts (s : ByteArray) (p : Int) (hp : 0 ≤ p) : ∀ (k : Nat) (u : Int) (i : Nat), i + k = 10 → 0 ≤ u → u < 2 ^ (7 * i) →
    I64 (numGo s p k u i).1 ∧ 0 ≤ (numGo s p k u i).2.1 ∧ (numGo s p k u i).2.1 ≤ Int.ofNat s.size ∧ ((numGo s p k u i).2.2 = 0 → p < (numGo s p k u i).2.1)
  | 0, u, i, _, _, _ => by rw [numGo]; exact ⟨⟨by decide, by decide⟩, by decide, Int.natCast_nonneg _, fun h => by cases h⟩
  | k + 1, u, i, hk, h0, h1 => by
    rw [numGo]
    split
    · exact ⟨⟨by decide, by decide⟩, by decide, Int.natCast_nonneg _, fun h => by cases h⟩
    · split
      · exact ⟨⟨by decide, by decide⟩, by decide, Int.natCast_nonneg _, fun h => by cases h⟩
      · rename_i hs hn
        have hc := sat_range s (p + Int.ofNat i)
        have st := num_step (c := at1 s p i) (by omega) h0 h1 hc.1 hc.2 hn
        split
        · split
          · exact ⟨⟨by decide, by decide⟩, by decide, Int.natCast_nonneg _, fun h => by cases h⟩
          · exact ⟨unf_i64 st.2.1 st.2.2.2, by dsimp only; ((try simp only [Int.ofNat_eq_natCast] at *); omega), by dsimp only; ((try simp only [Int.ofNat_eq_natCast] at *); omega), fun _ => by dsimp only; ((try simp only [Int.ofNat_eq_natCast] at *); omega)⟩
        · exact numGo_facts s p hp k _ (i + 1) (by omega) st.2.1 st.2.2.1
theorem numOf_facts (s : ByteArray) (p : Int) : I64 (numOf s p).1 ∧ 0 ≤ (numOf s p).2.1 ∧ (numOf s p).2.1 ≤ Int.ofNat s.size ∧ ((numOf s p).2.2 = 0 → p < (numOf s p).2.1) := by
  rw [numOf]
  split
  · exact ⟨⟨by decide, by decide⟩, by decide, Int.natCast_nonneg _, fun h => by cases h⟩
  · exact numGo_facts s p (by omega) 10 0 0 rfl (by decide) (by decide)
/-- What is read as a text. -/
def wordOf (s : ByteArray) (p : Int) : ByteArray × Int × Int :=
  if (numOf s p).2.2 ≠ 0 then (⟨⟨[]⟩⟩, 0, (numOf s p).2.2) else if (numOf s p).1 < 0 ∨ 20000 < (numOf s p).1 then (⟨⟨[]⟩⟩, 0, 3)
  else if Int.ofNat s.size < (numOf s p).2.1 + (numOf s p).1 then (⟨⟨[]⟩⟩, 0, 4)
  else (s.extract (numOf s p).2.1.toNat ((numOf s p).2.1 + (numOf s p).1).toNat, (numOf s p).2.1 + (numOf s p).1, 0)
def getText (s : ByteArray) (p : Int) : ByteArray × Int × Int := if tooLong s then (⟨⟨[]⟩⟩, 0, 2) else wordOf s p
abbrev TX (r : ByteArray × Int × Int) : Res := ⟨.agg [.y (yS r.1), .y (yN r.2.1), .y (yN r.2.2)], []⟩
theorem retTX {q v : ByteArray × Int × Int} {r : Res} (hr : r = TX q) (h : q = v) : TX v = r := by rw [hr, h]
theorem word_ok (s : ByteArray) (p : Int) (hl : s.size ≤ 4611686018427387904) (hp : I64 p) : CallOK Try.prog 85 [aS s, aN p] (TX (wordOf s p)) := by
  have c1 := num_ok s p (by rw [maxLen_is]; omega) hp
  have nf := numOf_facts s p
  obtain ⟨q, hq⟩ : ∃ q, q = wordOf s p := ⟨_, rfl⟩
  obtain ⟨z, hz⟩ : ∃ z, z = numOf s p := ⟨_, rfl⟩
  rw [← hq]
  rw [← hz] at c1 nf
  rw [wordOf, ← hz] at hq
  obtain ⟨n, a, c⟩ := z
  dsimp only at hq nf
  obtain ⟨nf1, nf2, nf3, nf4⟩ := nf
  have w1 := within_ok n 0 20000
  obtain ⟨M, hM⟩ := mapEx
  try simp only [hM]
  refine go Try.func85 rfl rfl rfl rfl fun pAdd pSub pMul pQuo pRem pAnd pOr pXor pAndNot pShl pShr pNeg pCompl pConv pLt pLe pEq pSlt pSle pSeq pCat pCatOk pSlen pSsub pSat pIadd pIsub pBnot pBeq pImin pImax pLlen pLsub pLapp pLset pLcopy pLenOk pBytes pRep hF Ca hC r hr => ?_
  cbv
  have el : pSlen s = Int.ofNat s.size := slenIs hF s
  refine callI hC c1 ?_
  cbv
  refine brkI (fun h => ?_) (fun h => ?_) <;> try cbv
  · have h := eqT hF h
    subst h
    rw [if_neg (by simp)] at hq
    refine callB hC w1 (fun h1 => ?_) (fun h1 => ?_) <;> try cbv
    · rw [Bool.and_eq_true, decide_eq_true_eq, decide_eq_true_eq] at h1
      rw [if_neg (by omega)] at hq
      have e : pAdd .i64 a n = a + n := addIs hF (by ((try simp only [Int.ofNat_eq_natCast] at *); omega)) (by ((try simp only [Int.ofNat_eq_natCast] at *); omega))
      rw [e]
      refine brkI (fun h2 => ?_) (fun h2 => ?_) <;> try cbv
      · have h2 := ltT hF h2
        rw [el] at h2
        rw [if_pos h2] at hq
        exact retTX (v := (⟨⟨[]⟩⟩, 0, 4)) hr hq
      · have h2 := ltF hF h2
        rw [el] at h2
        rw [if_neg (by ((try simp only [Int.ofNat_eq_natCast] at *); omega))] at hq
        refine brT (mkLe hF nf2) ?_
        try cbv
        rw [e]
        refine brT (mkLe hF (by omega)) ?_
        try cbv
        refine brT (mkLe hF (by rw [el]; ((try simp only [Int.ofNat_eq_natCast] at *); omega))) ?_
        try cbv
        have e2 : pSsub s a (a + n) = s.extract a.toNat (a + n).toNat := by
          have : prims.ssub s a (a + n) = s.extract a.toNat (a + n).toNat := rfl
          rw [hF] at this; exact this
        rw [e2]
        exact retTX hr hq
    · have : n < 0 ∨ 20000 < n := by
        rw [Bool.and_eq_false_iff, decide_eq_false_iff_not, decide_eq_false_iff_not] at h1; omega
      rw [if_pos this] at hq
      exact retTX (v := (⟨⟨[]⟩⟩, 0, 3)) hr hq
  · have h := eqF hF h
    rw [if_pos h] at hq
    exact retTX (v := (⟨⟨[]⟩⟩, 0, c)) hr hq
end Go.Proofs.Ytngnflfjacappaa
