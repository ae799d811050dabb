/- Functions of the program, each with what it returns, run by the evaluator; the conditions stand in the theorems. -/
import Derived.Test.YtngnflfjacappaaLRdr2
namespace Go.Proofs.Ytngnflfjacappaa
open Go Go.Proofs.YtngnflfjacappaaW Go.Proofs
set_option linter.unusedVariables false
set_option linter.unusedSimpArgs false
set_option maxRecDepth 100000
set_option maxHeartbeats 8000000
theorem getNum_is {t : ByteArray} (ht : t.size ≤ 20000) (p : Int) : getNum t p = numOf t p := by rw [getNum, ite_f (show tooLong t = false from decide_eq_false (by omega))]
theorem getText_is {t : ByteArray} (ht : t.size ≤ 20000) (p : Int) : getText t p = wordOf t p := by rw [getText, ite_f (show tooLong t = false from decide_eq_false (by omega))]
theorem i64_le {a : Int} {n : Nat} (h0 : 0 ≤ a) (h1 : a ≤ Int.ofNat n) (hn : n ≤ 4611686018427387904) : I64 a := ⟨by omega, by ((try simp only [Int.ofNat_eq_natCast] at *); omega)⟩
/-- What spec reads of a record's bytes. -/
theorem sRead_ok (t : ByteArray) (ht : t.size ≤ 20000) : ∃ n x, CallOK Try.prog 63 [aS t, aB8 76] (rdRes n x (if hdOk t then (hdW t).2.1 + 4 else 0) (hdOk t)) ∧ (hdOk t = true → n = (hdN t).1 ∧ x = (hdW t).1) := by
  have hbig : t.size ≤ 4611686018427387904 := by omega
  have nf := numOf_facts t 1
  have wf := wordOf_facts t (hdN t).2.1
  have i1 : I64 1 := ⟨by decide, by decide⟩
  have i0 : I64 0 := ⟨by decide, by decide⟩
  have iN : I64 (hdN t).2.1 := i64_le nf.2.1 nf.2.2.1 hbig
  cases h1 : hd1 t with
  | false =>
    have e : hdOk t = false := by simp [hdOk, h1]
    rw [e]
    exact ⟨0, ⟨⟨[]⟩⟩, sRead_bad t 0 0 0 true true 0 _ ⟨by decide, by decide⟩ (sFirstF_ok t h1 ht) (sNumF_ok t 0 true hbig i0 (Or.inl rfl)) (sTextF_ok t 0 true hbig i0 (Or.inl rfl)), fun h => by cases h⟩
  | true =>
    by_cases h2 : (hdN t).2.2 = 0
    · have cN := sNumT_ok t 1 (hdN t).1 (hdN t).2.1 hbig i1 (by rw [getNum_is ht]; exact Prod.ext rfl (Prod.ext rfl h2))
      by_cases h3 : (hdW t).2.2 = 0
      · have cW := sTextT_ok t (hdN t).2.1 (hdW t).1 (hdW t).2.1 hbig iN (by rw [getText_is ht]; exact Prod.ext rfl (Prod.ext rfl h3))
        obtain ⟨e, he⟩ : ∃ e : Nat, (hdW t).2.1 = Int.ofNat e := ⟨(hdW t).2.1.toNat, (Int.toNat_of_nonneg wf.1).symm⟩
        have hle : e ≤ t.size := by have := wf.2.1; rw [show (wordOf t (hdN t).2.1).2.1 = Int.ofNat e from he] at this; ((try simp only [Int.ofNat_eq_natCast] at *); omega)
        have hq : hdOk t = (decide (e + 4 ≤ t.size) && hdSum t e) := by
          rw [hdOk, h1, h2, h3, he, show (Int.ofNat e).toNat = e from rfl, Bool.eq_iff_iff]
          simp only [Bool.and_eq_true, decide_eq_true_eq, Bool.true_and]
          constructor
          · rintro ⟨⟨_, a⟩, b⟩; exact ⟨by ((try simp only [Int.ofNat_eq_natCast] at *); omega), b⟩
          · rintro ⟨a, b⟩; exact ⟨⟨⟨trivial, trivial⟩, by ((try simp only [Int.ofNat_eq_natCast] at *); omega)⟩, b⟩
        rw [he] at cW
        refine ⟨_, _, ?_, fun _ => ⟨rfl, rfl⟩⟩
        rw [he]
        exact sRead_end t 1 _ e _ _ _ ht hle hq (sFirstT_ok t h1 ht) cN cW
      · have e : hdOk t = false := by simp [hdOk, h3]
        rw [e]
        exact ⟨_, _, sRead_bad t 1 _ _ false false _ _ ⟨nf.2.1, Int.le_trans nf.2.2.1 (by ((try simp only [Int.ofNat_eq_natCast] at *); omega))⟩ (sFirstT_ok t h1 ht) cN (sTextF_ok t (hdN t).2.1 false hbig iN (Or.inr (by rw [getText_is ht]; exact h3))), fun h => by cases h⟩
    · have e : hdOk t = false := by simp [hdOk, h2]
      rw [e]
      exact ⟨_, _, sRead_bad t 1 1 1 false true _ _ ⟨by decide, by decide⟩ (sFirstT_ok t h1 ht) (sNumF_ok t 1 false hbig i1 (Or.inr (by rw [getNum_is ht]; exact h2))) (sTextF_ok t 1 true hbig i1 (Or.inl rfl)), fun h => by cases h⟩
abbrev hdRes (n : Int) (x : ByteArray) (e : Int) (b : Bool) : Res := ⟨.tup [(false, [.y (yN n)]), (false, [.y (yS x)]), (false, [.y (yN e)]), (false, [.y (yB b)])], []⟩
/-- What impl reads. -/
theorem iHead_ok (t : ByteArray) (ht : t.size ≤ 1000000000) : CallOK Try.prog 61 [aB8 76, aS t] (if hdOk t then hdRes (hdN t).1 (hdW t).1 ((hdW t).2.1 + 4) true else hdRes 0 ⟨⟨[]⟩⟩ 0 false) := by
  have hbig : t.size ≤ 4611686018427387904 := by omega
  have nf := numOf_facts t 1
  have wf := wordOf_facts t (hdN t).2.1
  have i1 : I64 1 := ⟨by decide, by decide⟩
  have iN : I64 (hdN t).2.1 := i64_le nf.2.1 nf.2.2.1 hbig
  obtain ⟨e, he⟩ : ∃ e : Nat, (hdW t).2.1 = Int.ofNat e := ⟨(hdW t).2.1.toNat, (Int.toNat_of_nonneg wf.1).symm⟩
  have hle : e ≤ t.size := by have := wf.2.1; rw [show (wordOf t (hdN t).2.1).2.1 = Int.ofNat e from he] at this; ((try simp only [Int.ofNat_eq_natCast] at *); omega)
  obtain ⟨bn, hbn⟩ : ∃ b, b = decide ((hdN t).2.2 ≠ 0) := ⟨_, rfl⟩
  obtain ⟨bw, hbw⟩ : ∃ b, b = decide ((hdW t).2.2 ≠ 0) := ⟨_, rfl⟩
  have cN := iRNum_ok t 1 hbig i1 bn hbn
  have cW := iRWord_ok t (hdN t).2.1 hbig iN bw hbw
  rw [show (wordOf t (hdN t).2.1).2.1 = Int.ofNat e from he] at cW
  have hq : hdOk t = (hd1 t && !bn && !bw && decide (e + 4 ≤ t.size) && hdSum t e) := by
    rw [hdOk, hbn, hbw, he, show (Int.ofNat e).toNat = e from rfl, Bool.eq_iff_iff]
    simp only [Bool.and_eq_true, decide_eq_true_eq, Bool.not_eq_true', decide_eq_false_iff_not, ne_eq, Classical.not_not]
    constructor
    · rintro ⟨⟨⟨⟨a, b⟩, c⟩, d⟩, f⟩; exact ⟨⟨⟨⟨a, b⟩, c⟩, by ((try simp only [Int.ofNat_eq_natCast] at *); omega)⟩, f⟩
    · rintro ⟨⟨⟨⟨a, b⟩, c⟩, d⟩, f⟩; exact ⟨⟨⟨⟨a, b⟩, c⟩, by ((try simp only [Int.ofNat_eq_natCast] at *); omega)⟩, f⟩
  obtain ⟨ok, hok⟩ : ∃ b, b = hdOk t := ⟨_, rfl⟩
  rw [← hok, he]
  rw [← hok] at hq
  obtain ⟨n, hn⟩ : ∃ n, n = (hdN t).1 := ⟨_, rfl⟩
  obtain ⟨a, ha⟩ : ∃ n, n = (hdN t).2.1 := ⟨_, rfl⟩
  obtain ⟨x, hx⟩ : ∃ n, n = (hdW t).1 := ⟨_, rfl⟩
  rw [show (numOf t 1).1 = n from hn.symm, show (numOf t 1).2.1 = a from ha.symm] at cN
  rw [show (wordOf t (hdN t).2.1).1 = x from hx.symm, ← ha] at cW
  rw [← hn, ← hx]
  obtain ⟨hdb, hhd⟩ : ∃ b, b = hd1 t := ⟨_, rfl⟩
  rw [← hhd] at hq
  have hd0 : hdb = (decide (0 < t.size) && decide (prims.sat t 0 = 76)) := hhd
  obtain ⟨c0, hc0⟩ : ∃ c, c = prims.sat t 0 := ⟨_, rfl⟩
  rw [← hc0] at hd0
  obtain ⟨te, hte⟩ : ∃ c, c = t.extract 0 e := ⟨_, rfl⟩
  obtain ⟨te4, hte4⟩ : ∃ c, c = t.extract 0 (e + 4) := ⟨_, rfl⟩
  obtain ⟨sd, hsd⟩ : ∃ c, c = te ++ four (crcBare te) := ⟨_, rfl⟩
  have cS := sealed_ok te (by rw [maxLen_is, hte, ByteArray.size_extract]; omega)
  rw [← hsd] at cS
  obtain ⟨sm, hsm⟩ : ∃ b, b = hdSum t e := ⟨_, rfl⟩
  rw [← hsm] at hq
  have hsm : sm = decide (sd = te4) := by rw [hsm, hdSum, ← hte, ← hsd, ← hte4]
  obtain ⟨R, hR⟩ : ∃ R, R = (if ok then hdRes n x (Int.ofNat e + 4) true else hdRes 0 ⟨⟨[]⟩⟩ 0 false) := ⟨_, rfl⟩
  have hR0 : ok = false → R = hdRes 0 ⟨⟨[]⟩⟩ 0 false := fun h => by rw [hR, h]; rfl
  have hR1 : ok = true → R = hdRes n x (Int.ofNat (e + 4)) true := fun h => by rw [hR, h]; rfl
  rw [← hR]
  clear hR hok hbn hbw hn ha hx hhd wf nf he iN
  obtain ⟨M, hM⟩ := mapEx
  try simp only [hM]
  refine go Try.func61 rfl rfl rfl rfl fun pAdd pSub pMul pQuo pRem pAnd pOr pXor pAndNot pShl pShr pNeg pCompl pConv pLt pLe pEq pSlt pSle pSeq pCat pCatOk pSlen pSsub pSat pIadd pIsub pBnot pBeq pImin pImax pLlen pLsub pLapp pLset pLcopy pLenOk pBytes pRep hF Ca hC r hr => ?_
  cbv
  have esl : pSlen t = Int.ofNat t.size := slenIs hF t
  have e4 : pAdd .i64 (Int.ofNat e) 4 = Int.ofNat (e + 4) := addIs hF (by ((try simp only [Int.ofNat_eq_natCast] at *); omega)) (by ((try simp only [Int.ofNat_eq_natCast] at *); omega))
  have ess : ∀ k, pSsub t 0 (Int.ofNat k) = t.extract 0 k := fun k => by
    have : prims.ssub t 0 (Int.ofNat k) = t.extract 0 k := rfl
    rw [hF] at this; exact this
  refine brkI (fun h => ?_) (fun h => ?_) <;> try cbv
  · have h := seqT hF h
    have : ok = false := by rw [hq, hd0, h]; rfl
    rw [hR0 this] at hr
    exact hr.symm
  have h := seqF hF h
  have hs0 : 0 < t.size := Nat.pos_of_ne_zero fun h0 => h (by cases t with | mk d => cases d with | mk l => cases l with | nil => rfl | cons a b => cases h0)
  refine brT (mkLe hF (by decide)) ?_
  try cbv
  rw [esl]
  refine brT (mkLt hF (by ((try simp only [Int.ofNat_eq_natCast] at *); omega))) ?_
  try cbv
  rw [show pSat t 0 = c0 from by rw [hc0, hF]]
  refine brkI (fun h1 => ?_) (fun h1 => ?_) <;> try cbv
  rotate_left
  · have h1 := eqF hF h1
    have : ok = false := by rw [hq, hd0, decide_eq_false h1]; simp
    rw [hR0 this] at hr
    exact hr.symm
  have h1 := eqT hF h1
  have hd2 : hdb = true := by rw [hd0, decide_eq_true hs0, decide_eq_true h1]; rfl
  rw [hd2, Bool.true_and] at hq
  refine callI hC cN ?_
  cases bn <;> cbv
  rotate_left
  · have : ok = false := hq
    rw [hR0 this] at hr
    exact hr.symm
  refine callI hC cW ?_
  cases bw <;> cbv
  rotate_left
  · have : ok = false := hq
    rw [hR0 this] at hr
    exact hr.symm
  rw [e4, esl]
  refine brkI (fun h2 => ?_) (fun h2 => ?_) <;> try cbv
  · have h2 := ltT hF h2
    have : ok = false := by rw [hq, decide_eq_false (show ¬ e + 4 ≤ t.size by ((try simp only [Int.ofNat_eq_natCast] at *); omega))]; rfl
    rw [hR0 this] at hr
    exact hr.symm
  have h2 := ltF hF h2
  have hsz : e + 4 ≤ t.size := by ((try simp only [Int.ofNat_eq_natCast] at *); omega)
  rw [decide_eq_true hsz] at hq
  refine brT (zeroLe hF e) ?_
  try cbv
  rw [esl]
  refine brT (mkLe hF (by ((try simp only [Int.ofNat_eq_natCast] at *); omega))) ?_
  try cbv
  rw [ess e, ← hte]
  refine callI hC cS ?_
  cbv
  refine brT (zeroLe hF _) ?_
  try cbv
  refine brT (mkLe hF (by ((try simp only [Int.ofNat_eq_natCast] at *); omega))) ?_
  try cbv
  rw [ess (e + 4), ← hte4]
  refine brkI (fun h3 => ?_) (fun h3 => ?_) <;> try cbv
  · have h3 := seqT hF h3
    have : ok = true := by rw [hq, hsm, decide_eq_true h3]; rfl
    rw [hR1 this] at hr
    exact hr.symm
  · have h3 := seqF hF h3
    have : ok = false := by rw [hq, hsm, decide_eq_false h3]; rfl
    rw [hR0 this] at hr
    exact hr.symm
end Go.Proofs.Ytngnflfjacappaa
