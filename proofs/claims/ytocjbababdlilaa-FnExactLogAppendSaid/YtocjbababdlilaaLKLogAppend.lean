/- Functions of the program, each with what it returns, run by the evaluator; the conditions stand in the theorems. -/
import Derived.Test.YtocjbababdlilaaLApp
import Derived.Test.YtocjbababdlilaaLDOut
namespace Go.Proofs.Ytocjbababdlilaa
open Go Go.Proofs.YtocjbababdlilaaW Go.Proofs
set_option linter.unusedVariables false
set_option linter.unusedSimpArgs false
set_option maxRecDepth 100000
set_option maxHeartbeats 8000000
theorem lawLogAppend_ok (d : Dsk) (d_b : Dsk.Bd maxLen d) (d_r : Dsk.Rg d) (a : Int) (a_r : I64 a) (rc : Rcd) (rc_b : Rcd.Bd maxLen rc) (rc_r : Rcd.Rg rc) : CallOK Try.prog 13 [.agg [.y (.sl 1 (d.secs.map rowS)), .y (.sl 2 (d.cache.map Wr.row))], aN a, .agg [.y (yN rc.seq), .y (yS rc.text)]] (B true) := by
  obtain ⟨M, hM⟩ := mapEx
  try simp only [hM]
  refine go Try.func13 rfl rfl rfl rfl fun pAdd pSub pMul pQuo pRem pAnd pOr pXor pAndNot pShl pShr pNeg pCompl pConv pLt pLe pEq pSlt pSle pSeq pCat pCatOk pSlen pSsub pSat pIadd pIsub pBnot pBeq pImin pImax pLlen pLsub pLapp pLset pLcopy pLenOk pBytes pRep hF Ca hC r hr => ?_
  cbv
  refine callN hC (by have hh := szDisk_ok d 1048576 (by decide) (by decide) d_b; (try simp only [hM] at hh); exact hh) (fun q1 hq1 => ?_)
  cbv
  refine brkI (fun h => ?_) (fun h => ?_) <;> try cbv
  · exact hr.symm
  have n1 : ¬ q1 < 0 := by have := ltF hF h; omega
  have m1 := Dsk.sz_ok d 1048576 (by decide) (by decide) (hq1 ▸ n1)
  rw [← hq1] at m1
  refine callN hC (by have hh := szRecord_ok rc q1 (by omega) (by omega) rc_b; (try simp only [hM] at hh); exact hh) (fun q2 hq2 => ?_)
  cbv
  refine brkI (fun h => ?_) (fun h => ?_) <;> try cbv
  · exact hr.symm
  have n2 : ¬ q2 < 0 := by have := ltF hF h; omega
  have m2 := Rcd.sz_ok rc q1 (by omega) (by omega) (hq2 ▸ n2)
  rw [← hq2] at m2
  have cs : CallOK Try.prog _ _ (outDR (apDisk d a rc.seq rc.text) (⟨⟨[]⟩⟩) (apCode d a rc.seq rc.text)) := sLogAppend_ok d a rc.seq rc.text m1.1 a_r
  have ci : CallOK Try.prog _ _ (outDR (apDisk d a rc.seq rc.text) (⟨⟨[]⟩⟩) (apCode d a rc.seq rc.text)) := iLogAppend_ok d a rc.seq rc.text m1.1 a_r
  have f_b : Dsk.Bd 1048576 (apDisk d a rc.seq rc.text) := apDisk_bd a rc.seq rc.text m1.1
  obtain ⟨f, hf⟩ : ∃ f, f = (apDisk d a rc.seq rc.text : Dsk) := ⟨_, rfl⟩
  obtain ⟨tx, htx⟩ : ∃ f, f = (⟨⟨[]⟩⟩ : ByteArray) := ⟨_, rfl⟩
  obtain ⟨cd, hcd⟩ : ∃ f, f = (apCode d a rc.seq rc.text : Int) := ⟨_, rfl⟩
  rw [← hf, ← htx, ← hcd] at cs ci
  rw [← hf] at f_b
  rw [outDR] at cs ci
  obtain ⟨ka0, hka0⟩ : ∃ z : Nat, z = toDisk 1 d := ⟨_, rfl⟩
  have lka0 : ka0 ≤ 3145729 := by rw [hka0]; show 1 + 1 * d.secs.length + 2 * d.cache.length ≤ _; have := m1.1.1.1; have := m1.1.2.1.1; omega
  obtain ⟨ma0, hma0⟩ : ∃ z, z = mkDisk 1 d := ⟨_, rfl⟩
  have ca0 := markDisk_ok d 1 m1.1.1.1 m1.1.2.1.1 (by omega)
  rw [← hka0, ← hma0] at ca0
  obtain ⟨kf, hkf⟩ : ∃ z : Nat, z = toDisk 1 f := ⟨_, rfl⟩
  have lkf : kf ≤ 3145729 := by rw [hkf]; show 1 + 1 * f.secs.length + 2 * f.cache.length ≤ _; have := f_b.1.1; have := f_b.2.1.1; omega
  obtain ⟨mf, hmf⟩ : ∃ z, z = mkDisk 1 f := ⟨_, rfl⟩
  have cf := markDOut_ok f tx cd 1 f_b.1.1 f_b.2.1.1 (by omega)
  have ch := heldDOut_ok f tx cd 1 f_b.1.1 f_b.2.1.1 (by omega)
  rw [← hkf, ← hmf] at cf ch
  have ce := eqDOut_ok f tx cd (Dsk.bigU f_b)
  refine callI hC (by have hh := toDisk_ok d m1.1; (try simp only [hM] at hh); exact hh) ?_
  cbv
  refine callI hC (by have hh := toRecord_ok rc; (try simp only [hM] at hh); exact hh) ?_
  cbv
  refine callI hC (by have hh := cs; (try simp only [hM] at hh); exact hh) ?_
  cbv
  refine ⟨?_, ?_⟩
  · intro a ha
    simp only [List.mem_cons, List.not_mem_nil, or_false] at ha
    rcases ha with rfl | rfl | rfl | rfl
    · exact fun x hx y hy => flat_rows flatS f.secs x (by rw [hM]; exact hx) y hy
    · exact fun x hx y hy => flat_rows flatWr f.cache x (by rw [hM]; exact hx) y hy
    · trivial
    · trivial
  refine callI hC (by have hh := toDisk_ok d m1.1; (try simp only [hM] at hh); exact hh) ?_
  cbv
  refine callI hC (by have hh := toRecord_ok rc; (try simp only [hM] at hh); exact hh) ?_
  cbv
  refine callI hC (by have hh := ci; (try simp only [hM] at hh); exact hh) ?_
  cbv
  refine ⟨?_, ?_⟩
  · intro a ha
    simp only [List.mem_cons, List.not_mem_nil, or_false] at ha
    rcases ha with rfl | rfl | rfl | rfl
    · exact fun x hx y hy => flat_rows flatS f.secs x (by rw [hM]; exact hx) y hy
    · exact fun x hx y hy => flat_rows flatWr f.cache x (by rw [hM]; exact hx) y hy
    · trivial
    · trivial
  refine callB hC (by have hh := ce; (try simp only [hM] at hh); exact hh) (fun hh => ?_) (fun hh => by cases hh)
  try cbv
  refine callI hC (by have hh := toDisk_ok d m1.1; (try simp only [hM] at hh); exact hh) ?_
  cbv
  refine callB hC (by have hh := eqDisk_ok d d_b; (try simp only [hM] at hh); exact hh) (fun hh => ?_) (fun hh => by cases hh)
  try cbv
  refine callI hC (by have hh := ca0; (try simp only [hM] at hh); exact hh) ?_
  cbv
  refine brkI (fun h => ?_) (fun h => ?_) <;> try cbv
  · exact absurd (ltT hF h) (by ((try simp only [Int.ofNat_eq_natCast] at *); omega))
  refine callB hC (by have hh := ce; (try simp only [hM] at hh); exact hh) (fun hh => ?_) (fun hh => by cases hh)
  try cbv
  refine callI hC (by have hh := cf; (try simp only [hM] at hh); exact hh) ?_
  cbv
  refine callI hC (by have hh := ch; (try simp only [hM] at hh); exact hh) ?_
  cbv
  refine brkI (fun h => ?_) (fun h => ?_) <;> try cbv
  · exact absurd (ltT hF h) (by ((try simp only [Int.ofNat_eq_natCast] at *); omega))
  refine brkI (fun h => ?_) (fun h => ?_) <;> try cbv
  rotate_left
  · exact absurd rfl (eqF hF h)
  refine callI hC (by have hh := toDisk_ok d m1.1; (try simp only [hM] at hh); exact hh) ?_
  cbv
  refine callI hC (by have hh := toRecord_ok rc; (try simp only [hM] at hh); exact hh) ?_
  cbv
  refine callI hC (by have hh := ci; (try simp only [hM] at hh); exact hh) ?_
  cbv
  refine ⟨?_, ?_⟩
  · intro a ha
    simp only [List.mem_cons, List.not_mem_nil, or_false] at ha
    rcases ha with rfl | rfl | rfl | rfl
    · exact fun x hx y hy => flat_rows flatS f.secs x (by rw [hM]; exact hx) y hy
    · exact fun x hx y hy => flat_rows flatWr f.cache x (by rw [hM]; exact hx) y hy
    · trivial
    · trivial
  refine callB hC (by have hh := ce; (try simp only [hM] at hh); exact hh) (fun hh => ?_) (fun hh => by cases hh)
  try cbv
  refine callI hC (by have hh := ch; (try simp only [hM] at hh); exact hh) ?_
  cbv
  refine brkI (fun h => ?_) (fun h => ?_) <;> try cbv
  · exact absurd (ltT hF h) (by ((try simp only [Int.ofNat_eq_natCast] at *); omega))
  refine brkI (fun h => ?_) (fun h => ?_) <;> try cbv
  rotate_left
  · exact absurd rfl (eqF hF h)
  exact hr.symm
end Go.Proofs.Ytocjbababdlilaa
