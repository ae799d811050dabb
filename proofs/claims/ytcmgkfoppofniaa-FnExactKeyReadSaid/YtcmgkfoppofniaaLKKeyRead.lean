/- Functions of the program, each with what it returns, run by the evaluator; the conditions stand in the theorems. -/
import Derived.Test.YtcmgkfoppofniaaLKey
import Derived.Test.YtcmgkfoppofniaaLMarkD
namespace Go.Proofs.Ytcmgkfoppofniaa
open Go Go.Proofs.YtcmgkfoppofniaaW Go.Proofs
set_option linter.unusedVariables false
set_option linter.unusedSimpArgs false
set_option maxRecDepth 100000
set_option maxHeartbeats 8000000
theorem eqOut_ok (l : List Val) (c : Int) (hl : l.length ≤ maxLen) : CallOK Try.prog 45 [.agg [.y (.sl 3 (l.map Val.row)), .y (yN c)], .agg [.y (.sl 3 (l.map Val.row)), .y (yN c)]] (B true) := by
  have h := eqValueS_ok l hl
  obtain ⟨xs, hx⟩ : ∃ xs, xs = l.map Val.row := ⟨_, rfl⟩
  rw [← hx] at h ⊢
  clear hx
  obtain ⟨M, hM⟩ := mapEx
  try simp only [hM]
  refine go Try.func45 rfl rfl rfl rfl fun pAdd pSub pMul pQuo pRem pAnd pOr pXor pAndNot pShl pShr pNeg pCompl pConv pLt pLe pEq pSlt pSle pSeq pCat pCatOk pSlen pSsub pSat pIadd pIsub pBnot pBeq pImin pImax pLlen pLsub pLapp pLset pLcopy pLenOk pBytes pRep hF Ca hC r hr => ?_
  cbv
  refine callB hC h (fun hh => ?_) (fun hh => by cases hh)
  try cbv
  refine brkI (fun h => ?_) (fun h => ?_) <;> try cbv
  · exact hr.symm
  · exact absurd rfl (eqF hF h)
theorem markOut_ok (l : List Val) (c : Int) (k : Nat) (hl : l.length ≤ 1048576) (hk : k ≤ 1000000000) : CallOK Try.prog 46 [.ir true [.own 3 (l.map Val.row), .y (yN c)], aN (Int.ofNat k)] ⟨.c (.y (.sc (.int .i64 (Int.ofNat (k + 3 * l.length))))), [[.own 3 ((mkValueS k l.length).map Val.row), .no]]⟩ := by
  have c1 := markValueS_ok l k (by omega) (by omega)
  obtain ⟨k1, hk1⟩ : ∃ k1, k1 = k + 3 * l.length := ⟨_, rfl⟩
  obtain ⟨ms, hms⟩ : ∃ k1, k1 = mkValueS k l.length := ⟨_, rfl⟩
  rw [← hk1, ← hms] at c1 ⊢
  clear hms hk1
  obtain ⟨M, hM⟩ := mapEx
  try simp only [hM]
  refine go Try.func46 rfl rfl rfl rfl fun pAdd pSub pMul pQuo pRem pAnd pOr pXor pAndNot pShl pShr pNeg pCompl pConv pLt pLe pEq pSlt pSle pSeq pCat pCatOk pSlen pSsub pSat pIadd pIsub pBnot pBeq pImin pImax pLlen pLsub pLapp pLset pLcopy pLenOk pBytes pRep hF Ca hC r hr => ?_
  cbv
  refine callI hC (by have hh := c1; (try simp only [hM] at hh); exact hh) ?_
  cbv
  exact hr.symm
theorem heldOut_ok (m k : Nat) (c : Int) (hm : m ≤ 1048576) (hk : k ≤ 1000000000) : CallOK Try.prog 47 [.agg [.y (.sl 3 ((mkValueS k m).map Val.row)), .y (yN c)], aN (Int.ofNat k)] (N (Int.ofNat (k + 3 * m))) := by
  have c1 := heldValueS_ok k m (by omega) (by omega)
  obtain ⟨k1, hk1⟩ : ∃ k1, k1 = k + 3 * m := ⟨_, rfl⟩
  obtain ⟨ms, hms⟩ : ∃ k1, k1 = mkValueS k m := ⟨_, rfl⟩
  rw [← hk1, ← hms] at c1 ⊢
  clear hms hk1
  obtain ⟨M, hM⟩ := mapEx
  try simp only [hM]
  refine go Try.func47 rfl rfl rfl rfl fun pAdd pSub pMul pQuo pRem pAnd pOr pXor pAndNot pShl pShr pNeg pCompl pConv pLt pLe pEq pSlt pSle pSeq pCat pCatOk pSlen pSsub pSat pIadd pIsub pBnot pBeq pImin pImax pLlen pLsub pLapp pLset pLcopy pLenOk pBytes pRep hF Ca hC r hr => ?_
  cbv
  refine callI hC (by have hh := c1; (try simp only [hM] at hh); exact hh) ?_
  cbv
  refine brkI (fun h => ?_) (fun h => ?_) <;> try cbv
  · exact absurd (ltT hF h) (by ((try simp only [Int.ofNat_eq_natCast] at *); omega))
  exact hr.symm
theorem readR_len {t : ByteArray} : ∀ (n p : Nat) (acc : List Val), t.size - p ≤ n → acc.length ≤ 12 → (readR t p acc).1.length ≤ 12
  | n, p, acc, hn, ha => by
    by_cases h : p < t.size
    · cases hg : goodAt t p acc with
      | false => rw [readR_bad h hg]; exact ha
      | true =>
        rw [readR_next h hg]
        have h1 : (valR t p).2.2 = true ∧ acc.length < 12 := by
          simp only [goodAt, Bool.and_eq_true, decide_eq_true_eq] at hg; exact ⟨hg.1, hg.2.2⟩
        have hr := valR_range h h1.1
        match n with
        | 0 => omega
        | n + 1 => exact readR_len n _ _ (by omega) (by rw [List.length_append]; exact h1.2)
    · rw [readR_end (by omega)]; exact ha
theorem keyRead_small (t : ByteArray) : (keyRead t).1.length ≤ 12 := by
  rw [keyRead]
  split
  · exact Nat.zero_le _
  · split
    · exact readR_len t.size 0 [] (by omega) (Nat.zero_le _)
    · exact Nat.zero_le _
theorem lawKeyRead_ok (t : ByteArray) (t_b : t.size ≤ maxLen) : CallOK Try.prog 7 [aS t] (B true) := by
  obtain ⟨f, hf⟩ : ∃ f, f = (keyRead t).1 := ⟨_, rfl⟩
  obtain ⟨c, hc⟩ : ∃ f, f = (keyRead t).2 := ⟨_, rfl⟩
  have cs := sKeyRead_ok t
  have ci := iKeyRead_ok t t_b
  have fb := keyRead_small t
  rw [← hf, ← hc] at cs ci
  rw [← hf] at fb
  clear hf hc
  obtain ⟨kf, hkf⟩ : ∃ z : Nat, z = 1 + 3 * f.length := ⟨_, rfl⟩
  have lkf : kf ≤ 100 := by omega
  obtain ⟨mf, hmf⟩ : ∃ z, z = mkValueS 1 f.length := ⟨_, rfl⟩
  have cf := markOut_ok f c 1 (by omega) (by omega)
  have ch := heldOut_ok f.length 1 c (by omega) (by omega)
  rw [← hkf, ← hmf] at cf ch
  have ce := eqOut_ok f c (Nat.le_trans fb (by decide))
  obtain ⟨M, hM⟩ := mapEx
  try simp only [hM]
  refine go Try.func7 rfl rfl rfl rfl fun pAdd pSub pMul pQuo pRem pAnd pOr pXor pAndNot pShl pShr pNeg pCompl pConv pLt pLe pEq pSlt pSle pSeq pCat pCatOk pSlen pSsub pSat pIadd pIsub pBnot pBeq pImin pImax pLlen pLsub pLapp pLset pLcopy pLenOk pBytes pRep hF Ca hC r hr => ?_
  cbv
  refine brkI (fun h => ?_) (fun h => ?_) <;> try cbv
  · exact hr.symm
  refine callI hC (by have hh := cs; (try simp only [hM] at hh); exact hh) ?_
  cbv
  refine callI hC (by have hh := ci; (try simp only [hM] at hh); exact hh) ?_
  cbv
  refine ⟨⟨?_, ?_⟩, ?_⟩
  · intro a ha
    simp only [RV.cells, List.mem_cons, List.not_mem_nil, or_false] at ha
    rcases ha with rfl | rfl
    · exact fun x hx y hy => flat_rows flatVal f x (by rw [hM]; exact hx) y hy
    · trivial
  · intro a ha
    exact absurd ha (by simp)
  refine callB hC (by have hh := ce; (try simp only [hM] at hh); exact hh) (fun hh => ?_) (fun hh => by cases hh)
  try cbv
  refine callI hC (by have hh := cf; (try simp only [hM] at hh); exact hh) ?_
  cbv
  refine callI hC (by have hh := ch; (try simp only [hM] at hh); exact hh) ?_
  cbv
  refine brkI (fun h => ?_) (fun h => ?_) <;> try cbv
  · exact absurd (ltT hF h) (by ((try simp only [Int.ofNat_eq_natCast] at *); omega))
  refine brkI (fun h => ?_) (fun h => ?_) <;> try cbv
  rotate_left
  · exact absurd rfl (eqF hF h)
  refine callI hC (by have hh := ci; (try simp only [hM] at hh); exact hh) ?_
  cbv
  refine ⟨⟨?_, ?_⟩, ?_⟩
  · intro a ha
    simp only [RV.cells, List.mem_cons, List.not_mem_nil, or_false] at ha
    rcases ha with rfl | rfl
    · exact fun x hx y hy => flat_rows flatVal f x (by rw [hM]; exact hx) y hy
    · trivial
  · intro a ha
    exact absurd ha (by simp)
  refine callB hC (by have hh := ce; (try simp only [hM] at hh); exact hh) (fun hh => ?_) (fun hh => by cases hh)
  try cbv
  refine callI hC (by have hh := ch; (try simp only [hM] at hh); exact hh) ?_
  cbv
  refine brkI (fun h => ?_) (fun h => ?_) <;> try cbv
  · exact absurd (ltT hF h) (by ((try simp only [Int.ofNat_eq_natCast] at *); omega))
  refine brkI (fun h => ?_) (fun h => ?_) <;> try cbv
  rotate_left
  · exact absurd rfl (eqF hF h)
  exact hr.symm
end Go.Proofs.Ytcmgkfoppofniaa
