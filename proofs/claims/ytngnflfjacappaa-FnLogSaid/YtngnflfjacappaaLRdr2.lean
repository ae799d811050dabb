/- Functions of the program, each with what it returns, run by the evaluator; the conditions stand in the theorems. -/
import Derived.Test.YtngnflfjacappaaLRdr
namespace Go.Proofs.Ytngnflfjacappaa
open Go Go.Proofs.YtngnflfjacappaaW Go.Proofs
set_option linter.unusedVariables false
set_option linter.unusedSimpArgs false
set_option maxRecDepth 100000
set_option maxHeartbeats 8000000
def hdN (t : ByteArray) : Int × Int × Int := numOf t 1
def hdW (t : ByteArray) : ByteArray × Int × Int := wordOf t (hdN t).2.1
def hdSum (t : ByteArray) (e : Nat) : Bool := decide (t.extract 0 e ++ four (crcBare (t.extract 0 e)) = t.extract 0 (e + 4))
def hdOk (t : ByteArray) : Bool := hd1 t && decide ((hdN t).2.2 = 0) && decide ((hdW t).2.2 = 0) && decide ((hdW t).2.1 + 4 ≤ Int.ofNat t.size) && hdSum t (hdW t).2.1.toNat
theorem wordOf_facts (s : ByteArray) (p : Int) : 0 ≤ (wordOf s p).2.1 ∧ (wordOf s p).2.1 ≤ Int.ofNat s.size ∧ ((wordOf s p).2.2 = 0 → (numOf s p).2.2 = 0 ∧ 0 ≤ (numOf s p).1 ∧ (numOf s p).1 ≤ 20000 ∧ (wordOf s p).2.1 = (numOf s p).2.1 + (numOf s p).1 ∧ (wordOf s p).1 = s.extract (numOf s p).2.1.toNat ((numOf s p).2.1 + (numOf s p).1).toNat ∧ (wordOf s p).2.1 ≤ Int.ofNat s.size) := by
  have nf := numOf_facts s p
  rw [wordOf]
  split
  · rename_i h; exact ⟨Int.le_refl _, Int.natCast_nonneg _, fun h1 => absurd h1 h⟩
  · rename_i h
    split
    · exact ⟨by decide, Int.natCast_nonneg _, fun h => by cases h⟩
    · split
      · exact ⟨by decide, Int.natCast_nonneg _, fun h => by cases h⟩
      · exact ⟨by dsimp only; omega, by dsimp only; omega, fun _ => ⟨by omega, by omega, by omega, rfl, rfl, by dsimp only; omega⟩⟩
theorem sum_split (t : ByteArray) (e : Nat) (h : e + 4 ≤ t.size) : hdSum t e = decide (four (crcBare (t.extract 0 e)) = t.extract e (e + 4)) := by
  rw [hdSum, Bool.eq_iff_iff, decide_eq_true_iff, decide_eq_true_iff]
  have e1 : t.extract 0 (e + 4) = t.extract 0 e ++ t.extract e (e + 4) := by
    rw [ByteArray.extract_append_extract, Nat.min_eq_left (by omega), Nat.max_eq_right (by omega)]
  rw [e1]
  exact ByteArray.append_right_inj _
abbrev rdRes (n : Int) (x : ByteArray) (e : Int) (b : Bool) : Res := ⟨.tup [(true, [.y (yN n), .y (yS x)]), (false, [.y (yN e)]), (false, [.y (yB b)])], []⟩
/-- Something was wrong. -/
theorem sRead_bad (t : ByteArray) (a1 a2 a3 : Int) (b1 b2 : Bool) (n : Int) (x : ByteArray) (ha3 : 0 ≤ a3 ∧ a3 ≤ 4611686018427387904)
    (c1 : CallOK Try.prog 75 [.io (rdC t 0 false), aB8 76] ⟨.tup [], [rdC t a1 b1]⟩)
    (c2 : CallOK Try.prog 76 [.io (rdC t a1 b1)] ⟨.c (.y (yN n)), [rdC t a2 b2]⟩)
    (c3 : CallOK Try.prog 77 [.io (rdC t a2 b2)] ⟨.c (.y (yS x)), [rdC t a3 true]⟩) :
    CallOK Try.prog 63 [aS t, aB8 76] (rdRes n x 0 false) := by
  obtain ⟨M, hM⟩ := mapEx
  try simp only [hM]
  refine go Try.func63 rfl rfl rfl rfl fun pAdd pSub pMul pQuo pRem pAnd pOr pXor pAndNot pShl pShr pNeg pCompl pConv pLt pLe pEq pSlt pSle pSeq pCat pCatOk pSlen pSsub pSat pIadd pIsub pBnot pBeq pImin pImax pLlen pLsub pLapp pLset pLcopy pLenOk pBytes pRep hF Ca hC r hr => ?_
  cbv
  refine callI hC c1 ?_
  cbv
  refine callI hC c2 ?_
  cbv
  refine callI hC c3 ?_
  cbv
  exact hr.symm
theorem sRead_end (t : ByteArray) (a1 a2 : Int) (e : Nat) (n : Int) (x : ByteArray) (q : Bool) (ht : t.size ≤ 20000) (he : e ≤ t.size) (hq : q = (decide (e + 4 ≤ t.size) && hdSum t e))
    (c1 : CallOK Try.prog 75 [.io (rdC t 0 false), aB8 76] ⟨.tup [], [rdC t a1 false]⟩)
    (c2 : CallOK Try.prog 76 [.io (rdC t a1 false)] ⟨.c (.y (yN n)), [rdC t a2 false]⟩)
    (c3 : CallOK Try.prog 77 [.io (rdC t a2 false)] ⟨.c (.y (yS x)), [rdC t (Int.ofNat e) false]⟩) :
    CallOK Try.prog 63 [aS t, aB8 76] (rdRes n x (if q then Int.ofNat (e + 4) else 0) q) := by
  obtain ⟨E, hE⟩ : ∃ E : Int, E = if q then Int.ofNat (e + 4) else 0 := ⟨_, rfl⟩
  rw [← hE]
  have hE0 : q = false → E = 0 := fun h => by rw [hE, h]; rfl
  have hE1 : q = true → E = Int.ofNat (e + 4) := fun h => by rw [hE, h]; rfl
  clear hE
  have hsp := sum_split t e
  obtain ⟨cc, hcc⟩ : ∃ c, c = crcBare (t.extract 0 e) := ⟨_, rfl⟩
  obtain ⟨te, hte⟩ : ∃ c, c = t.extract 0 e := ⟨_, rfl⟩
  obtain ⟨t4, ht4⟩ : ∃ c, c = t.extract e (e + 4) := ⟨_, rfl⟩
  obtain ⟨hs, hhs⟩ : ∃ c, c = hdSum t e := ⟨_, rfl⟩
  rw [← hhs] at hq
  rw [← hcc, ← hhs, ← ht4] at hsp
  have cte : te.size ≤ maxLen := by rw [maxLen_is, hte, ByteArray.size_extract]; omega
  have ccrc := crcS_ok 0 te cte
  obtain ⟨m0, hm0⟩ : ∃ m0, m0 = prims.conv .i64 (prims.xor .u32 (reg (prims.xor .u32 (prims.conv .u32 0) 4294967295) te te.size) 4294967295) := ⟨_, rfl⟩
  have em0 : four m0 = four cc := by rw [hm0, hcc, ← hte]; exact congrArg four (conv_i64_xor _ _)
  rw [← hm0] at ccrc
  obtain ⟨M, hM⟩ := mapEx
  try simp only [hM]
  refine go Try.func63 rfl rfl rfl rfl fun pAdd pSub pMul pQuo pRem pAnd pOr pXor pAndNot pShl pShr pNeg pCompl pConv pLt pLe pEq pSlt pSle pSeq pCat pCatOk pSlen pSsub pSat pIadd pIsub pBnot pBeq pImin pImax pLlen pLsub pLapp pLset pLcopy pLenOk pBytes pRep hF Ca hC r hr => ?_
  cbv
  have el : pSlen t = Int.ofNat t.size := slenIs hF t
  refine callI hC c1 ?_
  cbv
  refine callI hC c2 ?_
  cbv
  refine callI hC c3 ?_
  cbv
  have e4 : pAdd .i64 (Int.ofNat e) 4 = Int.ofNat (e + 4) := addIs hF (by ((try simp only [Int.ofNat_eq_natCast] at *); omega)) (by ((try simp only [Int.ofNat_eq_natCast] at *); omega))
  have e5 : pSub .i64 (Int.ofNat (e + 4)) 4 = Int.ofNat e := (subIs hF (by ((try simp only [Int.ofNat_eq_natCast] at *); omega)) (by ((try simp only [Int.ofNat_eq_natCast] at *); omega))).trans (by ((try simp only [Int.ofNat_eq_natCast] at *); omega))
  rw [e4, el]
  refine brkI (fun h => ?_) (fun h => ?_) <;> try cbv
  · have h := ltT hF h
    have : q = false := by rw [hq, decide_eq_false (show ¬ e + 4 ≤ t.size by ((try simp only [Int.ofNat_eq_natCast] at *); omega))]; rfl
    rw [hE0 this, this] at hr
    exact hr.symm
  have h := ltF hF h
  have hsz : e + 4 ≤ t.size := by ((try simp only [Int.ofNat_eq_natCast] at *); omega)
  have hsp := hsp hsz
  have g1 : pLe 0 (pSub .i64 (Int.ofNat (e + 4)) 4) = true := by rw [e5]; exact zeroLe hF e
  have g2 : pLe (pSub .i64 (Int.ofNat (e + 4)) 4) (pSlen t) = true := by rw [e5, el]; exact mkLe hF (by ((try simp only [Int.ofNat_eq_natCast] at *); omega))
  have g3 : pLe (pSub .i64 (Int.ofNat (e + 4)) 4) (Int.ofNat (e + 4)) = true := by rw [e5]; exact mkLe hF (by ((try simp only [Int.ofNat_eq_natCast] at *); omega))
  have g4 : pLe (Int.ofNat (e + 4)) (pSlen t) = true := by rw [el]; exact mkLe hF (by ((try simp only [Int.ofNat_eq_natCast] at *); omega))
  have eb : pSsub t 0 (pSub .i64 (Int.ofNat (e + 4)) 4) = te := by
    rw [e5, hte]
    have : prims.ssub t 0 (Int.ofNat e) = t.extract 0 e := rfl
    rw [hF] at this; exact this
  have et : pSsub t (pSub .i64 (Int.ofNat (e + 4)) 4) (Int.ofNat (e + 4)) = t4 := by
    rw [e5, ht4]
    have : prims.ssub t (Int.ofNat e) (Int.ofNat (e + 4)) = t.extract e (e + 4) := rfl
    rw [hF] at this; exact this
  refine brT g1 ?_
  try cbv
  refine brT g2 ?_
  try cbv
  rw [eb]
  refine callN hC ccrc (fun m hm => ?_)
  cbv
  refine callS hC (l01Four_ok _) (fun b hb => ?_)
  cbv
  have em : b = four cc := by rw [hb, hm, em0]
  refine brT g1 ?_
  try cbv
  refine brT g3 ?_
  try cbv
  refine brT g4 ?_
  try cbv
  rw [et]
  refine brkI (fun h2 => ?_) (fun h2 => ?_) <;> try cbv
  · have h2 := seqT hF h2
    have : q = true := by rw [hq, decide_eq_true hsz, hsp, ← em, decide_eq_true h2]; rfl
    rw [hE1 this, this] at hr
    exact hr.symm
  · have h2 := seqF hF h2
    have : q = false := by rw [hq, hsp, ← em, decide_eq_false h2, Bool.and_false]
    rw [hE0 this, this] at hr
    exact hr.symm
end Go.Proofs.Ytngnflfjacappaa
