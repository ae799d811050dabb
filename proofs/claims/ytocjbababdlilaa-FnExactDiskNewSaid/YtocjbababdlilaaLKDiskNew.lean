/- Functions of the program, each with what it returns, run by the evaluator; the conditions stand in the theorems. -/
import Derived.Test.YtocjbababdlilaaLNew
import Derived.Test.YtocjbababdlilaaLMarkD
namespace Go.Proofs.Ytocjbababdlilaa
open Go Go.Proofs.YtocjbababdlilaaW Go.Proofs
set_option linter.unusedVariables false
set_option linter.unusedSimpArgs false
set_option maxRecDepth 100000
set_option maxHeartbeats 8000000
theorem lawDiskNew_ok (n : Int) (n_r : I64 n) : CallOK Try.prog 6 [aN n] (B true) := by
  obtain ⟨M, hM⟩ := mapEx
  try simp only [hM]
  refine go Try.func6 rfl rfl rfl rfl fun pAdd pSub pMul pQuo pRem pAnd pOr pXor pAndNot pShl pShr pNeg pCompl pConv pLt pLe pEq pSlt pSle pSeq pCat pCatOk pSlen pSsub pSat pIadd pIsub pBnot pBeq pImin pImax pLlen pLsub pLapp pLset pLcopy pLenOk pBytes pRep hF Ca hC r hr => ?_
  cbv
  obtain ⟨f, hf⟩ : ∃ f, f = diskNew n := ⟨_, rfl⟩
  have f_b := diskNew_bd n
  rw [← hf] at f_b
  have cs := sDiskNew_ok n n_r
  have ci := iDiskNew_ok n
  rw [← hf] at cs ci
  rw [ownD] at cs ci
  have fb := f_b.1.1
  obtain ⟨kf, hkf⟩ : ∃ z : Nat, z = toDisk 1 f := ⟨_, rfl⟩
  have lkf : kf ≤ 3145729 := by rw [hkf]; show 1 + 1 * f.secs.length + 2 * f.cache.length ≤ _; have := f_b.1.1; have := f_b.2.1.1; omega
  obtain ⟨mf, hmf⟩ : ∃ z, z = mkDisk 1 f := ⟨_, rfl⟩
  have cf := markDisk_ok f 1 f_b.1.1 f_b.2.1.1 (by omega)
  have ch := heldDisk_ok f 1 f_b.1.1 f_b.2.1.1 (by omega)
  rw [← hkf, ← hmf] at cf ch
  have ce := eqDisk_ok f (Dsk.big f_b)
  refine callI hC (by have hh := cs; (try simp only [hM] at hh); exact hh) ?_
  cbv
  refine callI hC (by have hh := ci; (try simp only [hM] at hh); exact hh) ?_
  cbv
  refine ⟨⟨?_, ?_⟩, ?_⟩
  · intro a ha
    simp only [RV.cells, List.mem_cons, List.not_mem_nil, or_false] at ha
    rcases ha with rfl | rfl
    · exact fun x hx y hy => flat_rows flatS f.secs x (by rw [hM]; exact hx) y hy
    · exact fun x hx y hy => flat_rows flatWr f.cache x (by rw [hM]; exact hx) y hy
  · intro a ha
    exact absurd ha (by simp)
  refine callB hC (by have hh := ce; (try simp only [hM] at hh); exact hh) (fun hh => ?_) (fun hh => by cases hh)
  try cbv
  refine callI hC (by have hh := cf; (try simp only [hM] at hh); exact hh) ?_
  cbv
  refine callI hC (by have hh := ch; (try simp only [hM] at hh); exact hh) ?_
  cbv
  refine brkI (fun h => ?_) (fun h => ?_) <;> try cbv
  · exact absurd (ltT hF h) (by ((try simp only [Int.ofNat_eq_natCast] at *); omega))
  refine brkI (fun h => ?_) (fun h => ?_) <;> try cbv
  rotate_left
  · exact absurd rfl (eqF hF h)
  refine callI hC (by have hh := ci; (try simp only [hM] at hh); exact hh) ?_
  cbv
  refine ⟨⟨?_, ?_⟩, ?_⟩
  · intro a ha
    simp only [RV.cells, List.mem_cons, List.not_mem_nil, or_false] at ha
    rcases ha with rfl | rfl
    · exact fun x hx y hy => flat_rows flatS f.secs x (by rw [hM]; exact hx) y hy
    · exact fun x hx y hy => flat_rows flatWr f.cache x (by rw [hM]; exact hx) y hy
  · intro a ha
    exact absurd ha (by simp)
  refine callB hC (by have hh := ce; (try simp only [hM] at hh); exact hh) (fun hh => ?_) (fun hh => by cases hh)
  try cbv
  refine callI hC (by have hh := ch; (try simp only [hM] at hh); exact hh) ?_
  cbv
  refine brkI (fun h => ?_) (fun h => ?_) <;> try cbv
  · exact absurd (ltT hF h) (by ((try simp only [Int.ofNat_eq_natCast] at *); omega))
  refine brkI (fun h => ?_) (fun h => ?_) <;> try cbv
  rotate_left
  · exact absurd rfl (eqF hF h)
  exact hr.symm
end Go.Proofs.Ytocjbababdlilaa
