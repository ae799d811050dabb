/- Functions of the program, each with what it returns, run by the evaluator; the conditions stand in the theorems. -/
import Derived.Test.YtcmgkfoppofniaaLPick
import Derived.Test.YtcmgkfoppofniaaLMarkD
namespace Go.Proofs.Ytcmgkfoppofniaa
open Go Go.Proofs.YtcmgkfoppofniaaW Go.Proofs
set_option linter.unusedVariables false
set_option linter.unusedSimpArgs false
set_option maxRecDepth 100000
set_option maxHeartbeats 8000000
theorem lawPick_ok (row : List Val) (row_b : row.length ≤ maxLen) (row_c : ∀ v ∈ row, Val.Bd maxLen v) (row_r : ∀ v ∈ row, Val.Rg v) (columns : List Int) (columns_b : columns.length ≤ maxLen) (columns_r : ∀ v ∈ columns, I64 v) : CallOK Try.prog 6 [.c (.y (.sl 3 (row.map Val.row))), .c (.y (.sl 1 (columns.map rowI)))] (B true) := by
  obtain ⟨M, hM⟩ := mapEx
  try simp only [hM]
  refine go Try.func6 rfl rfl rfl rfl fun pAdd pSub pMul pQuo pRem pAnd pOr pXor pAndNot pShl pShr pNeg pCompl pConv pLt pLe pEq pSlt pSle pSeq pCat pCatOk pSlen pSsub pSat pIadd pIsub pBnot pBeq pImin pImax pLlen pLsub pLapp pLset pLcopy pLenOk pBytes pRep hF Ca hC r hr => ?_
  cbv
  refine brkI (fun h => ?_) (fun h => ?_) <;> try cbv
  · exact hr.symm
  have columns_h := ltF hF h
  have columns_q : columns.length ≤ 1048576 := by have e : pLlen (M rowI columns) = Int.ofNat (M rowI columns).length := llenIs hF _; rw [e, ← hM, List.length_map] at columns_h; ((try simp only [Int.ofNat_eq_natCast] at *); omega)
  refine callN hC (by have hh := szValueS_ok row 1048576 (by decide) (by decide) row_b row_c; (try simp only [hM] at hh); exact hh) (fun q1 hq1 => ?_)
  cbv
  refine brkI (fun h => ?_) (fun h => ?_) <;> try cbv
  · exact hr.symm
  have n1 : ¬ q1 < 0 := by have := ltF hF h; omega
  have m1 := (szL_ok Val.sz_ok) row 1048576 (by decide) (by decide) (hq1 ▸ n1)
  rw [← hq1] at m1
  obtain ⟨f, hf⟩ : ∃ f, f = pick row columns := ⟨_, rfl⟩
  have f_b := (pick_small (row := row) (cols := columns))
  rw [← hf] at f_b
  have cs := sPick_ok row columns row_b columns_b
  have ci := iPick_ok row columns row_b columns_b
  rw [← hf] at cs ci
  have bb0 := m1.1.1
  obtain ⟨ka0, hka0⟩ : ∃ z : Nat, z = 1 + 3 * row.length := ⟨_, rfl⟩
  have lka0 : ka0 ≤ 3145729 := by rw [hka0]; omega
  obtain ⟨ma0, hma0⟩ : ∃ z, z = mkValueS 1 row.length := ⟨_, rfl⟩
  have ca0 := markValueS_ok row 1 (by omega) (by omega)
  rw [← hka0, ← hma0] at ca0
  have bb1 := columns_q
  obtain ⟨ka1, hka1⟩ : ∃ z : Nat, z = ka0 + 1 * columns.length := ⟨_, rfl⟩
  have lka1 : ka1 ≤ 4194305 := by rw [hka1]; omega
  obtain ⟨ma1, hma1⟩ : ∃ z, z = mkInt64S ka0 columns.length := ⟨_, rfl⟩
  have ca1 := markInt64S_ok columns ka0 (by omega) (by omega)
  rw [← hka1, ← hma1] at ca1
  have fb := f_b
  obtain ⟨kf, hkf⟩ : ∃ z : Nat, z = 1 + 3 * f.length := ⟨_, rfl⟩
  have lkf : kf ≤ 3145729 := by rw [hkf]; omega
  obtain ⟨mf, hmf⟩ : ∃ z, z = mkValueS 1 f.length := ⟨_, rfl⟩
  have cf := markValueS_ok f 1 (by omega) (by omega)
  have ch := heldValueS_ok 1 f.length (by omega) (by omega)
  rw [← hkf, ← hmf] at cf ch
  have ce := eqValueS_ok f (Nat.le_trans f_b (by decide))
  refine callI hC (by have hh := toValueS_ok row m1.1.1 m1.1.2; (try simp only [hM] at hh); exact hh) ?_
  cbv
  refine callI hC (by have hh := toInt64S_ok columns columns_q; (try simp only [hM] at hh); exact hh) ?_
  cbv
  refine callI hC (by have hh := cs; (try simp only [hM] at hh); exact hh) ?_
  cbv
  refine callI hC (by have hh := toValueS_ok row m1.1.1 m1.1.2; (try simp only [hM] at hh); exact hh) ?_
  cbv
  refine callI hC (by have hh := toInt64S_ok columns columns_q; (try simp only [hM] at hh); exact hh) ?_
  cbv
  refine callI hC (by have hh := ci; (try simp only [hM] at hh); exact hh) ?_
  cbv
  refine ⟨⟨?_, ?_⟩, ?_⟩
  · intro a ha
    simp only [RV.cells, List.mem_cons, List.not_mem_nil, or_false] at ha
    rcases ha with rfl
    · exact fun x hx y hy => flat_rows flatVal f x (by rw [hM]; exact hx) y hy
  · intro a ha
    exact absurd ha (by simp)
  refine callB hC (by have hh := ce; (try simp only [hM] at hh); exact hh) (fun hh => ?_) (fun hh => by cases hh)
  try cbv
  refine callI hC (by have hh := toValueS_ok row m1.1.1 m1.1.2; (try simp only [hM] at hh); exact hh) ?_
  cbv
  refine callB hC (by have hh := eqValueS_ok row row_b; (try simp only [hM] at hh); exact hh) (fun hh => ?_) (fun hh => by cases hh)
  try cbv
  refine callI hC (by have hh := toInt64S_ok columns columns_q; (try simp only [hM] at hh); exact hh) ?_
  cbv
  refine callB hC (by have hh := eqInt64S_ok columns columns_b; (try simp only [hM] at hh); exact hh) (fun hh => ?_) (fun hh => by cases hh)
  try cbv
  refine callI hC (by have hh := ca0; (try simp only [hM] at hh); exact hh) ?_
  cbv
  refine callI hC (by have hh := ca1; (try simp only [hM] at hh); exact hh) ?_
  cbv
  refine brkI (fun h => ?_) (fun h => ?_) <;> try cbv
  · exact absurd (ltT hF h) (by ((try simp only [Int.ofNat_eq_natCast] at *); omega))
  refine callB hC (by have hh := ce; (try simp only [hM] at hh); exact hh) (fun hh => ?_) (fun hh => by cases hh)
  try cbv
  refine callI hC (by have hh := cf; (try simp only [hM] at hh); exact hh) ?_
  cbv
  refine callI hC (by have hh := ch; (try simp only [hM] at hh); exact hh) ?_
  cbv
  refine brkI (fun h => ?_) (fun h => ?_) <;> try cbv
  · exact absurd (ltT hF h) (by ((try simp only [Int.ofNat_eq_natCast] at *); omega))
  refine brkI (fun h => ?_) (fun h => ?_) <;> try cbv
  rotate_left
  · exact absurd rfl (eqF hF h)
  refine callI hC (by have hh := toValueS_ok row m1.1.1 m1.1.2; (try simp only [hM] at hh); exact hh) ?_
  cbv
  refine callI hC (by have hh := toInt64S_ok columns columns_q; (try simp only [hM] at hh); exact hh) ?_
  cbv
  refine callI hC (by have hh := ci; (try simp only [hM] at hh); exact hh) ?_
  cbv
  refine ⟨⟨?_, ?_⟩, ?_⟩
  · intro a ha
    simp only [RV.cells, List.mem_cons, List.not_mem_nil, or_false] at ha
    rcases ha with rfl
    · exact fun x hx y hy => flat_rows flatVal f x (by rw [hM]; exact hx) y hy
  · intro a ha
    exact absurd ha (by simp)
  refine callB hC (by have hh := ce; (try simp only [hM] at hh); exact hh) (fun hh => ?_) (fun hh => by cases hh)
  try cbv
  refine callI hC (by have hh := ch; (try simp only [hM] at hh); exact hh) ?_
  cbv
  refine brkI (fun h => ?_) (fun h => ?_) <;> try cbv
  · exact absurd (ltT hF h) (by ((try simp only [Int.ofNat_eq_natCast] at *); omega))
  refine brkI (fun h => ?_) (fun h => ?_) <;> try cbv
  rotate_left
  · exact absurd rfl (eqF hF h)
  exact hr.symm
end Go.Proofs.Ytcmgkfoppofniaa
