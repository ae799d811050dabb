/- Functions of the program, each with what it returns, run by the evaluator; the conditions stand in the theorems. -/
import Derived.Test.YtocjbababdlilaaLLOut
namespace Go.Proofs.Ytocjbababdlilaa
open Go Go.Proofs.YtocjbababdlilaaW Go.Proofs
set_option linter.unusedVariables false
set_option linter.unusedSimpArgs false
set_option maxRecDepth 100000
set_option maxHeartbeats 8000000
theorem lawLogRead_ok (d : Dsk) (d_b : Dsk.Bd maxLen d) (d_r : Dsk.Rg d) (a : Int) (a_r : I64 a) (sq : Int) (sq_r : I64 sq) : CallOK Try.prog 12 [.agg [.y (.sl 1 (d.secs.map rowS)), .y (.sl 2 (d.cache.map Wr.row))], aN a, aN sq] (B true) := by
  obtain ⟨M, hM⟩ := mapEx
  try simp only [hM]
  refine go Try.func12 rfl rfl rfl rfl fun pAdd pSub pMul pQuo pRem pAnd pOr pXor pAndNot pShl pShr pNeg pCompl pConv pLt pLe pEq pSlt pSle pSeq pCat pCatOk pSlen pSsub pSat pIadd pIsub pBnot pBeq pImin pImax pLlen pLsub pLapp pLset pLcopy pLenOk pBytes pRep hF Ca hC r hr => ?_
  cbv
  refine callN hC (by have hh := szDisk_ok d 1048576 (by decide) (by decide) d_b; (try simp only [hM] at hh); exact hh) (fun q1 hq1 => ?_)
  cbv
  refine brkI (fun h => ?_) (fun h => ?_) <;> try cbv
  · exact hr.symm
  have n1 : ¬ q1 < 0 := by have := ltF hF h; omega
  have m1 := Dsk.sz_ok d 1048576 (by decide) (by decide) (hq1 ▸ n1)
  rw [← hq1] at m1
  have cs : CallOK Try.prog _ _ (loRes (lrList d a sq) (lrNext d a sq) (lrCode d a sq)) := sLogRead_ok d a sq m1.1 a_r
  have ci : CallOK Try.prog _ _ (loRes (lrList d a sq) (lrNext d a sq) (lrCode d a sq)) := iLogRead_ok d a sq m1.1 a_r
  have f_b := (lrList_small d a sq).1
  obtain ⟨f, hf⟩ : ∃ f, f = (lrList d a sq) := ⟨_, rfl⟩
  obtain ⟨nx, hnx⟩ : ∃ f, f = (lrNext d a sq) := ⟨_, rfl⟩
  obtain ⟨cd, hcd⟩ : ∃ f, f = (lrCode d a sq) := ⟨_, rfl⟩
  rw [← hf, ← hnx, ← hcd] at cs ci
  rw [← hf] at f_b
  rw [loRes] at cs ci
  obtain ⟨ka0, hka0⟩ : ∃ z : Nat, z = toDisk 1 d := ⟨_, rfl⟩
  have lka0 : ka0 ≤ 3145729 := by rw [hka0]; show 1 + 1 * d.secs.length + 2 * d.cache.length ≤ _; have := m1.1.1.1; have := m1.1.2.1.1; omega
  obtain ⟨ma0, hma0⟩ : ∃ z, z = mkDisk 1 d := ⟨_, rfl⟩
  have ca0 := markDisk_ok d 1 m1.1.1.1 m1.1.2.1.1 (by omega)
  rw [← hka0, ← hma0] at ca0
  obtain ⟨kf, hkf⟩ : ∃ z : Nat, z = 1 + 2 * f.length := ⟨_, rfl⟩
  have lkf : kf ≤ 3145729 := by omega
  obtain ⟨mf, hmf⟩ : ∃ z, z = mkRecordS 1 f.length := ⟨_, rfl⟩
  have cf := markLOut_ok f nx cd 1 (by omega) (by omega)
  have ch := heldLOut_ok f.length 1 nx cd (by omega) (by omega)
  rw [← hkf, ← hmf] at cf ch
  have ce := eqLOut_ok f nx cd (Nat.le_trans f_b (by decide))
  refine callI hC (by have hh := toDisk_ok d m1.1; (try simp only [hM] at hh); exact hh) ?_
  cbv
  refine callI hC (by have hh := cs; (try simp only [hM] at hh); exact hh) ?_
  cbv
  refine callI hC (by have hh := toDisk_ok d m1.1; (try simp only [hM] at hh); exact hh) ?_
  cbv
  refine callI hC (by have hh := ci; (try simp only [hM] at hh); exact hh) ?_
  cbv
  refine ⟨⟨?_, ?_⟩, ?_⟩
  · intro a ha
    simp only [RV.cells, List.mem_cons, List.not_mem_nil, or_false] at ha
    rcases ha with rfl | rfl | rfl
    · exact fun x hx y hy => flat_rows flatRcd f x (by rw [hM]; exact hx) y hy
    · trivial
    · trivial
  · intro a ha
    exact absurd ha (by simp)
  refine callB hC (by have hh := ce; (try simp only [hM] at hh); exact hh) (fun hh => ?_) (fun hh => by cases hh)
  try cbv
  refine callI hC (by have hh := toDisk_ok d m1.1; (try simp only [hM] at hh); exact hh) ?_
  cbv
  refine callB hC (by have hh := eqDisk_ok d d_b; (try simp only [hM] at hh); exact hh) (fun hh => ?_) (fun hh => by cases hh)
  try cbv
  refine callI hC (by have hh := ca0; (try simp only [hM] at hh); exact hh) ?_
  cbv
  refine brkI (fun h => ?_) (fun h => ?_) <;> try cbv
  · exact absurd (ltT hF h) (by ((try simp only [Int.ofNat_eq_natCast] at *); omega))
  refine callB hC (by have hh := ce; (try simp only [hM] at hh); exact hh) (fun hh => ?_) (fun hh => by cases hh)
  try cbv
  refine callI hC (by have hh := cf; (try simp only [hM] at hh); exact hh) ?_
  cbv
  refine callI hC (by have hh := ch; (try simp only [hM] at hh); exact hh) ?_
  cbv
  refine brkI (fun h => ?_) (fun h => ?_) <;> try cbv
  · exact absurd (ltT hF h) (by ((try simp only [Int.ofNat_eq_natCast] at *); omega))
  refine brkI (fun h => ?_) (fun h => ?_) <;> try cbv
  rotate_left
  · exact absurd rfl (eqF hF h)
  refine callI hC (by have hh := toDisk_ok d m1.1; (try simp only [hM] at hh); exact hh) ?_
  cbv
  refine callI hC (by have hh := ci; (try simp only [hM] at hh); exact hh) ?_
  cbv
  refine ⟨⟨?_, ?_⟩, ?_⟩
  · intro a ha
    simp only [RV.cells, List.mem_cons, List.not_mem_nil, or_false] at ha
    rcases ha with rfl | rfl | rfl
    · exact fun x hx y hy => flat_rows flatRcd f x (by rw [hM]; exact hx) y hy
    · trivial
    · trivial
  · intro a ha
    exact absurd ha (by simp)
  refine callB hC (by have hh := ce; (try simp only [hM] at hh); exact hh) (fun hh => ?_) (fun hh => by cases hh)
  try cbv
  refine callI hC (by have hh := ch; (try simp only [hM] at hh); exact hh) ?_
  cbv
  refine brkI (fun h => ?_) (fun h => ?_) <;> try cbv
  · exact absurd (ltT hF h) (by ((try simp only [Int.ofNat_eq_natCast] at *); omega))
  refine brkI (fun h => ?_) (fun h => ?_) <;> try cbv
  rotate_left
  · exact absurd rfl (eqF hF h)
  exact hr.symm
end Go.Proofs.Ytocjbababdlilaa
