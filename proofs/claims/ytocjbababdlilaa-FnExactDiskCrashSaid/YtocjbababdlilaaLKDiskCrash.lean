/- Functions of the program, each with what it returns, run by the evaluator; the conditions stand in the theorems. -/
import Derived.Test.YtocjbababdlilaaLCrash
import Derived.Test.YtocjbababdlilaaLMarkD
namespace Go.Proofs.Ytocjbababdlilaa
open Go Go.Proofs.YtocjbababdlilaaW Go.Proofs
set_option linter.unusedVariables false
set_option linter.unusedSimpArgs false
set_option maxRecDepth 100000
set_option maxHeartbeats 8000000
theorem lawDiskCrash_ok (d : Dsk) (d_b : Dsk.Bd maxLen d) (d_r : Dsk.Rg d) (keep : List Bool) (keep_b : keep.length ≤ maxLen) : CallOK Try.prog 5 [.agg [.y (.sl 1 (d.secs.map rowS)), .y (.sl 2 (d.cache.map Wr.row))], .c (.y (.sl 1 (keep.map rowB)))] (B true) := by
  obtain ⟨M, hM⟩ := mapEx
  try simp only [hM]
  refine go Try.func5 rfl rfl rfl rfl fun pAdd pSub pMul pQuo pRem pAnd pOr pXor pAndNot pShl pShr pNeg pCompl pConv pLt pLe pEq pSlt pSle pSeq pCat pCatOk pSlen pSsub pSat pIadd pIsub pBnot pBeq pImin pImax pLlen pLsub pLapp pLset pLcopy pLenOk pBytes pRep hF Ca hC r hr => ?_
  cbv
  refine brkI (fun h => ?_) (fun h => ?_) <;> try cbv
  · exact hr.symm
  have keep_h := ltF hF h
  have keep_q : keep.length ≤ 1048576 := by have e : pLlen (M rowB keep) = Int.ofNat (M rowB keep).length := llenIs hF _; rw [e, ← hM, List.length_map] at keep_h; ((try simp only [Int.ofNat_eq_natCast] at *); omega)
  refine callN hC (by have hh := szDisk_ok d 1048576 (by decide) (by decide) d_b; (try simp only [hM] at hh); exact hh) (fun q1 hq1 => ?_)
  cbv
  refine brkI (fun h => ?_) (fun h => ?_) <;> try cbv
  · exact hr.symm
  have n1 : ¬ q1 < 0 := by have := ltF hF h; omega
  have m1 := Dsk.sz_ok d 1048576 (by decide) (by decide) (hq1 ▸ n1)
  rw [← hq1] at m1
  obtain ⟨f, hf⟩ : ∃ f, f = crash d keep := ⟨_, rfl⟩
  have f_b := crash_bd m1.1 keep
  rw [← hf] at f_b
  have cs := sCrash_ok d keep m1.1 keep_b
  have ci := iCrash_ok d keep m1.1 keep_b
  rw [← hf] at cs ci
  rw [ownD] at cs ci
  have bb0 := m1.1
  obtain ⟨ka0, hka0⟩ : ∃ z : Nat, z = toDisk 1 d := ⟨_, rfl⟩
  have lka0 : ka0 ≤ 3145729 := by rw [hka0]; show 1 + 1 * d.secs.length + 2 * d.cache.length ≤ _; have := m1.1.1.1; have := m1.1.2.1.1; omega
  obtain ⟨ma0, hma0⟩ : ∃ z, z = mkDisk 1 d := ⟨_, rfl⟩
  have ca0 := markDisk_ok d 1 m1.1.1.1 m1.1.2.1.1 (by omega)
  rw [← hka0, ← hma0] at ca0
  have bb1 := keep_q
  obtain ⟨ka1, hka1⟩ : ∃ z : Nat, z = ka0 + 1 * keep.length := ⟨_, rfl⟩
  have lka1 : ka1 ≤ 4194305 := by rw [hka1]; omega
  obtain ⟨ma1, hma1⟩ : ∃ z, z = mkBoolS ka0 keep.length := ⟨_, rfl⟩
  have ca1 := markBoolS_ok keep ka0 (by omega) (by omega)
  rw [← hka1, ← hma1] at ca1
  have fb := f_b.1.1
  obtain ⟨kf, hkf⟩ : ∃ z : Nat, z = toDisk 1 f := ⟨_, rfl⟩
  have lkf : kf ≤ 3145729 := by rw [hkf]; show 1 + 1 * f.secs.length + 2 * f.cache.length ≤ _; have := f_b.1.1; have := f_b.2.1.1; omega
  obtain ⟨mf, hmf⟩ : ∃ z, z = mkDisk 1 f := ⟨_, rfl⟩
  have cf := markDisk_ok f 1 f_b.1.1 f_b.2.1.1 (by omega)
  have ch := heldDisk_ok f 1 f_b.1.1 f_b.2.1.1 (by omega)
  rw [← hkf, ← hmf] at cf ch
  have ce := eqDisk_ok f (Dsk.big f_b)
  refine callI hC (by have hh := toDisk_ok d m1.1; (try simp only [hM] at hh); exact hh) ?_
  cbv
  refine callI hC (by have hh := toBoolS_ok keep keep_q; (try simp only [hM] at hh); exact hh) ?_
  cbv
  refine callI hC (by have hh := cs; (try simp only [hM] at hh); exact hh) ?_
  cbv
  refine callI hC (by have hh := toDisk_ok d m1.1; (try simp only [hM] at hh); exact hh) ?_
  cbv
  refine callI hC (by have hh := toBoolS_ok keep keep_q; (try simp only [hM] at hh); exact hh) ?_
  cbv
  refine callI hC (by have hh := ci; (try simp only [hM] at hh); exact hh) ?_
  cbv
  refine ⟨⟨?_, ?_⟩, ?_⟩
  · intro a ha
    simp only [RV.cells, List.mem_cons, List.not_mem_nil, or_false] at ha
    rcases ha with rfl | rfl
    · exact fun x hx y hy => flat_rows flatS f.secs x (by rw [hM]; exact hx) y hy
    · exact fun x hx y hy => flat_rows flatWr f.cache x (by rw [hM]; exact hx) y hy
  · intro a ha
    exact absurd ha (by simp)
  refine callB hC (by have hh := ce; (try simp only [hM] at hh); exact hh) (fun hh => ?_) (fun hh => by cases hh)
  try cbv
  refine callI hC (by have hh := toDisk_ok d m1.1; (try simp only [hM] at hh); exact hh) ?_
  cbv
  refine callB hC (by have hh := eqDisk_ok d d_b; (try simp only [hM] at hh); exact hh) (fun hh => ?_) (fun hh => by cases hh)
  try cbv
  refine callI hC (by have hh := toBoolS_ok keep keep_q; (try simp only [hM] at hh); exact hh) ?_
  cbv
  refine callB hC (by have hh := eqBoolS_ok keep keep_b; (try simp only [hM] at hh); exact hh) (fun hh => ?_) (fun hh => by cases hh)
  try cbv
  refine callI hC (by have hh := ca0; (try simp only [hM] at hh); exact hh) ?_
  cbv
  refine callI hC (by have hh := ca1; (try simp only [hM] at hh); exact hh) ?_
  cbv
  refine brkI (fun h => ?_) (fun h => ?_) <;> try cbv
  · exact absurd (ltT hF h) (by ((try simp only [Int.ofNat_eq_natCast] at *); omega))
  refine callB hC (by have hh := ce; (try simp only [hM] at hh); exact hh) (fun hh => ?_) (fun hh => by cases hh)
  try cbv
  refine callI hC (by have hh := cf; (try simp only [hM] at hh); exact hh) ?_
  cbv
  refine callI hC (by have hh := ch; (try simp only [hM] at hh); exact hh) ?_
  cbv
  refine brkI (fun h => ?_) (fun h => ?_) <;> try cbv
  · exact absurd (ltT hF h) (by ((try simp only [Int.ofNat_eq_natCast] at *); omega))
  refine brkI (fun h => ?_) (fun h => ?_) <;> try cbv
  rotate_left
  · exact absurd rfl (eqF hF h)
  refine callI hC (by have hh := toDisk_ok d m1.1; (try simp only [hM] at hh); exact hh) ?_
  cbv
  refine callI hC (by have hh := toBoolS_ok keep keep_q; (try simp only [hM] at hh); exact hh) ?_
  cbv
  refine callI hC (by have hh := ci; (try simp only [hM] at hh); exact hh) ?_
  cbv
  refine ⟨⟨?_, ?_⟩, ?_⟩
  · intro a ha
    simp only [RV.cells, List.mem_cons, List.not_mem_nil, or_false] at ha
    rcases ha with rfl | rfl
    · exact fun x hx y hy => flat_rows flatS f.secs x (by rw [hM]; exact hx) y hy
    · exact fun x hx y hy => flat_rows flatWr f.cache x (by rw [hM]; exact hx) y hy
  · intro a ha
    exact absurd ha (by simp)
  refine callB hC (by have hh := ce; (try simp only [hM] at hh); exact hh) (fun hh => ?_) (fun hh => by cases hh)
  try cbv
  refine callI hC (by have hh := ch; (try simp only [hM] at hh); exact hh) ?_
  cbv
  refine brkI (fun h => ?_) (fun h => ?_) <;> try cbv
  · exact absurd (ltT hF h) (by ((try simp only [Int.ofNat_eq_natCast] at *); omega))
  refine brkI (fun h => ?_) (fun h => ?_) <;> try cbv
  rotate_left
  · exact absurd rfl (eqF hF h)
  exact hr.symm
end Go.Proofs.Ytocjbababdlilaa
