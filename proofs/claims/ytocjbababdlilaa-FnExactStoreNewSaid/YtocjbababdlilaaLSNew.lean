/- Functions of the program, each with what it returns, run by the evaluator; the conditions stand in the theorems. -/
import Derived.Test.YtocjbababdlilaaLNew
import Derived.Test.YtocjbababdlilaaLMarkD
namespace Go.Proofs.Ytocjbababdlilaa
open Go Go.Proofs.YtocjbababdlilaaW Go.Proofs
set_option linter.unusedVariables false
set_option linter.unusedSimpArgs false
set_option maxRecDepth 100000
set_option maxHeartbeats 8000000
abbrev stoRes (d : Dsk) : Res := ⟨.agg [.own 1 (d.secs.map rowS), .own 2 (d.cache.map Wr.row), .own 5 [], .y (yN 1), .y (yN 200)], []⟩
theorem sStoreNew_ok : CallOK Try.prog 44 [] (stoRes (diskNew 700)) := by
  have c := sDiskNew_ok 700 ⟨by decide, by decide⟩
  obtain ⟨f, hf⟩ : ∃ f, f = diskNew 700 := ⟨_, rfl⟩
  rw [← hf] at c ⊢
  rw [ownD] at c
  rw [stoRes]
  obtain ⟨M, hM⟩ := mapEx
  try simp only [hM]
  refine go Try.func44 rfl rfl rfl rfl fun pAdd pSub pMul pQuo pRem pAnd pOr pXor pAndNot pShl pShr pNeg pCompl pConv pLt pLe pEq pSlt pSle pSeq pCat pCatOk pSlen pSsub pSat pIadd pIsub pBnot pBeq pImin pImax pLlen pLsub pLapp pLset pLcopy pLenOk pBytes pRep hF Ca hC r hr => ?_
  cbv
  refine callI hC (by have hh := c; (try simp only [hM] at hh); exact hh) ?_
  cbv
  exact hr.symm
theorem iStoreNew_ok : CallOK Try.prog 45 [] (stoRes (diskNew 700)) := by
  have c := iDiskNew_ok 700
  obtain ⟨f, hf⟩ : ∃ f, f = diskNew 700 := ⟨_, rfl⟩
  rw [← hf] at c ⊢
  rw [ownD] at c
  rw [stoRes]
  obtain ⟨M, hM⟩ := mapEx
  try simp only [hM]
  refine go Try.func45 rfl rfl rfl rfl fun pAdd pSub pMul pQuo pRem pAnd pOr pXor pAndNot pShl pShr pNeg pCompl pConv pLt pLe pEq pSlt pSle pSeq pCat pCatOk pSlen pSsub pSat pIadd pIsub pBnot pBeq pImin pImax pLlen pLsub pLapp pLset pLcopy pLenOk pBytes pRep hF Ca hC r hr => ?_
  cbv
  refine callI hC (by have hh := c; (try simp only [hM] at hh); exact hh) ?_
  cbv
  refine ⟨⟨?_, ?_⟩, ?_⟩
  · intro a ha
    simp only [RV.cells, List.mem_cons, List.not_mem_nil, or_false] at ha
    rcases ha with rfl | rfl
    · exact fun x hx y hy => flat_rows flatS f.secs x (by rw [hM]; exact hx) y hy
    · exact fun x hx y hy => flat_rows flatWr f.cache x (by rw [hM]; exact hx) y hy
  · intro a ha
    exact absurd ha (by simp)
  exact hr.symm
theorem eqTabs0_ok : CallOK Try.prog 123 [.c (.y (.sl 5 [])), .c (.y (.sl 5 []))] (B true) := by
  obtain ⟨M, hM⟩ := mapEx
  try simp only [hM]
  refine go Try.func123 rfl rfl rfl rfl fun pAdd pSub pMul pQuo pRem pAnd pOr pXor pAndNot pShl pShr pNeg pCompl pConv pLt pLe pEq pSlt pSle pSeq pCat pCatOk pSlen pSsub pSat pIadd pIsub pBnot pBeq pImin pImax pLlen pLsub pLapp pLset pLcopy pLenOk pBytes pRep hF Ca hC r hr => ?_
  cbv
  have l0 : pLlen [] = 0 := (llenIs hF _).trans rfl
  rw [l0]
  refine brT (mkEq hF rfl) ?_
  try cbv
  refine loop_u (α := Unit) (fun _ st => st) (fun _ => True) (fun _ => 0) () rfl trivial (fun K' hK I z hi ih => ?_)
  cbv
  rw [l0]
  refine brF (mkNlt hF (by decide)) ?_
  try cbv
  refine hK _ _ ?_
  cbv
  exact hr.symm
theorem eqDb0_ok : CallOK Try.prog 97 [.agg [.y (.sl 5 [])], .agg [.y (.sl 5 [])]] (B true) := by
  have c := eqTabs0_ok
  obtain ⟨M, hM⟩ := mapEx
  try simp only [hM]
  refine go Try.func97 rfl rfl rfl rfl fun pAdd pSub pMul pQuo pRem pAnd pOr pXor pAndNot pShl pShr pNeg pCompl pConv pLt pLe pEq pSlt pSle pSeq pCat pCatOk pSlen pSsub pSat pIadd pIsub pBnot pBeq pImin pImax pLlen pLsub pLapp pLset pLcopy pLenOk pBytes pRep hF Ca hC r hr => ?_
  cbv
  refine callB hC c (fun hh => ?_) (fun hh => by cases hh)
  try cbv
  exact hr.symm
theorem markTabs0_ok (k : Nat) : CallOK Try.prog 124 [.ir false [.own 5 []], aN (Int.ofNat k)] ⟨.c (.y (.sc (.int .i64 (Int.ofNat k)))), [[.own 5 []]]⟩ := by
  obtain ⟨M, hM⟩ := mapEx
  try simp only [hM]
  refine go Try.func124 rfl rfl rfl rfl fun pAdd pSub pMul pQuo pRem pAnd pOr pXor pAndNot pShl pShr pNeg pCompl pConv pLt pLe pEq pSlt pSle pSeq pCat pCatOk pSlen pSsub pSat pIadd pIsub pBnot pBeq pImin pImax pLlen pLsub pLapp pLset pLcopy pLenOk pBytes pRep hF Ca hC r hr => ?_
  cbv
  have l0 : pLlen [] = 0 := (llenIs hF _).trans rfl
  refine loop_u (α := Unit) (fun _ st => st) (fun _ => True) (fun _ => 0) () rfl trivial (fun K' hK I z hi ih => ?_)
  cbv
  rw [l0]
  refine brF (mkNlt hF (by decide)) ?_
  try cbv
  refine hK _ _ ?_
  cbv
  exact hr.symm
theorem markDb0_ok (k : Nat) : CallOK Try.prog 98 [.ir true [.own 5 []], aN (Int.ofNat k)] ⟨.c (.y (.sc (.int .i64 (Int.ofNat k)))), [[.own 5 []]]⟩ := by
  have c := markTabs0_ok k
  obtain ⟨M, hM⟩ := mapEx
  try simp only [hM]
  refine go Try.func98 rfl rfl rfl rfl fun pAdd pSub pMul pQuo pRem pAnd pOr pXor pAndNot pShl pShr pNeg pCompl pConv pLt pLe pEq pSlt pSle pSeq pCat pCatOk pSlen pSsub pSat pIadd pIsub pBnot pBeq pImin pImax pLlen pLsub pLapp pLset pLcopy pLenOk pBytes pRep hF Ca hC r hr => ?_
  cbv
  refine callI hC c ?_
  cbv
  exact hr.symm
theorem heldTabs0_ok (k : Nat) : CallOK Try.prog 125 [.c (.y (.sl 5 [])), aN (Int.ofNat k)] (N (Int.ofNat k)) := by
  obtain ⟨M, hM⟩ := mapEx
  try simp only [hM]
  refine go Try.func125 rfl rfl rfl rfl fun pAdd pSub pMul pQuo pRem pAnd pOr pXor pAndNot pShl pShr pNeg pCompl pConv pLt pLe pEq pSlt pSle pSeq pCat pCatOk pSlen pSsub pSat pIadd pIsub pBnot pBeq pImin pImax pLlen pLsub pLapp pLset pLcopy pLenOk pBytes pRep hF Ca hC r hr => ?_
  cbv
  have l0 : pLlen [] = 0 := (llenIs hF _).trans rfl
  refine loop_u (α := Unit) (fun _ st => st) (fun _ => True) (fun _ => 0) () rfl trivial (fun K' hK I z hi ih => ?_)
  cbv
  rw [l0]
  refine brF (mkNlt hF (by decide)) ?_
  try cbv
  refine hK _ _ ?_
  cbv
  exact hr.symm
theorem heldDb0_ok (k : Nat) : CallOK Try.prog 99 [.agg [.y (.sl 5 [])], aN (Int.ofNat k)] (N (Int.ofNat k)) := by
  have c := heldTabs0_ok k
  obtain ⟨M, hM⟩ := mapEx
  try simp only [hM]
  refine go Try.func99 rfl rfl rfl rfl fun pAdd pSub pMul pQuo pRem pAnd pOr pXor pAndNot pShl pShr pNeg pCompl pConv pLt pLe pEq pSlt pSle pSeq pCat pCatOk pSlen pSsub pSat pIadd pIsub pBnot pBeq pImin pImax pLlen pLsub pLapp pLset pLcopy pLenOk pBytes pRep hF Ca hC r hr => ?_
  cbv
  refine callI hC c ?_
  cbv
  refine brF (mkNlt hF (Int.natCast_nonneg _)) ?_
  try cbv
  exact hr.symm
abbrev stoV (d : Dsk) (a b : Int) : List AC := [.y (.sl 1 (d.secs.map rowS)), .y (.sl 2 (d.cache.map Wr.row)), .y (.sl 5 []), .y (yN a), .y (yN b)]
theorem eqSto_ok (d : Dsk) (a b : Int) (hd : Dsk.Bd maxLen d) : CallOK Try.prog 46 [.agg (stoV d a b), .agg (stoV d a b)] (B true) := by
  have c := eqDisk_ok d hd
  have c2 := eqDb0_ok
  rw [stoV]
  obtain ⟨M, hM⟩ := mapEx
  try simp only [hM]
  refine go Try.func46 rfl rfl rfl rfl fun pAdd pSub pMul pQuo pRem pAnd pOr pXor pAndNot pShl pShr pNeg pCompl pConv pLt pLe pEq pSlt pSle pSeq pCat pCatOk pSlen pSsub pSat pIadd pIsub pBnot pBeq pImin pImax pLlen pLsub pLapp pLset pLcopy pLenOk pBytes pRep hF Ca hC r hr => ?_
  cbv
  refine callB hC (by have hh := c; (try simp only [hM] at hh); exact hh) (fun hh => ?_) (fun hh => by cases hh)
  try cbv
  refine callB hC c2 (fun hh => ?_) (fun hh => by cases hh)
  try cbv
  refine brT (mkEq hF rfl) ?_
  try cbv
  refine brT (mkEq hF rfl) ?_
  try cbv
  exact hr.symm
theorem markSto_ok (d : Dsk) (a b : Int) (k : Nat) (h1 : d.secs.length ≤ 1048576) (h2 : d.cache.length ≤ 1048576) (hk : k ≤ 1000000000) :
    CallOK Try.prog 47 [.ir true [.own 1 (d.secs.map rowS), .own 2 (d.cache.map Wr.row), .own 5 [], .y (yN a), .y (yN b)], aN (Int.ofNat k)] ⟨.c (.y (.sc (.int .i64 (Int.ofNat (toDisk k d))))), [[.own 1 ((mkDisk k d).secs.map rowS), .own 2 ((mkDisk k d).cache.map Wr.row), .own 5 [], .no, .no]]⟩ := by
  have c := markDisk_ok d k h1 h2 (by omega)
  have c2 := markDb0_ok (toDisk k d)
  obtain ⟨k1, hk1⟩ : ∃ k1, k1 = toDisk k d := ⟨_, rfl⟩
  obtain ⟨m, hm⟩ : ∃ k1, k1 = mkDisk k d := ⟨_, rfl⟩
  rw [← hk1, ← hm] at c ⊢
  rw [← hk1] at c2
  obtain ⟨M, hM⟩ := mapEx
  try simp only [hM]
  refine go Try.func47 rfl rfl rfl rfl fun pAdd pSub pMul pQuo pRem pAnd pOr pXor pAndNot pShl pShr pNeg pCompl pConv pLt pLe pEq pSlt pSle pSeq pCat pCatOk pSlen pSsub pSat pIadd pIsub pBnot pBeq pImin pImax pLlen pLsub pLapp pLset pLcopy pLenOk pBytes pRep hF Ca hC r hr => ?_
  cbv
  refine callI hC (by have hh := c; (try simp only [hM] at hh); exact hh) ?_
  cbv
  refine callI hC c2 ?_
  cbv
  exact hr.symm
theorem heldSto_ok (d : Dsk) (a b : Int) (k : Nat) (h1 : d.secs.length ≤ 1048576) (h2 : d.cache.length ≤ 1048576) (hk : k ≤ 1000000000) :
    CallOK Try.prog 48 [.agg (stoV (mkDisk k d) a b), aN (Int.ofNat k)] (N (Int.ofNat (toDisk k d))) := by
  have c := heldDisk_ok d k h1 h2 (by omega)
  have c2 := heldDb0_ok (toDisk k d)
  obtain ⟨k1, hk1⟩ : ∃ k1, k1 = toDisk k d := ⟨_, rfl⟩
  obtain ⟨m, hm⟩ : ∃ k1, k1 = mkDisk k d := ⟨_, rfl⟩
  rw [← hk1, ← hm] at c
  rw [← hm, ← hk1]
  rw [← hk1] at c2
  rw [stoV]
  obtain ⟨M, hM⟩ := mapEx
  try simp only [hM]
  refine go Try.func48 rfl rfl rfl rfl fun pAdd pSub pMul pQuo pRem pAnd pOr pXor pAndNot pShl pShr pNeg pCompl pConv pLt pLe pEq pSlt pSle pSeq pCat pCatOk pSlen pSsub pSat pIadd pIsub pBnot pBeq pImin pImax pLlen pLsub pLapp pLset pLcopy pLenOk pBytes pRep hF Ca hC r hr => ?_
  cbv
  refine callI hC (by have hh := c; (try simp only [hM] at hh); exact hh) ?_
  cbv
  refine brF (mkNlt hF (Int.natCast_nonneg _)) ?_
  try cbv
  refine callI hC c2 ?_
  cbv
  refine brF (mkNlt hF (Int.natCast_nonneg _)) ?_
  try cbv
  exact hr.symm
theorem lawStoreNew_ok : CallOK Try.prog 11 [] (B true) := by
  have cs := sStoreNew_ok
  have ci := iStoreNew_ok
  have f_b := diskNew_bd 700
  obtain ⟨f, hf⟩ : ∃ f, f = diskNew 700 := ⟨_, rfl⟩
  rw [← hf] at cs ci f_b
  rw [stoRes] at cs ci
  have ce := eqSto_ok f 1 200 (Dsk.big f_b)
  have cm := markSto_ok f 1 200 1 f_b.1.1 f_b.2.1.1 (by decide)
  have ch := heldSto_ok f 1 200 1 f_b.1.1 f_b.2.1.1 (by decide)
  obtain ⟨k1, hk1⟩ : ∃ k1, k1 = toDisk 1 f := ⟨_, rfl⟩
  obtain ⟨m, hm⟩ : ∃ k1, k1 = mkDisk 1 f := ⟨_, rfl⟩
  rw [← hk1, ← hm] at cm ch
  rw [stoV] at ce ch
  have flat : ∀ (M : ∀ {α : Type}, (α → List Y) → List α → List (List Y)), (∀ {α : Type} (f : α → List Y) (l : List α), l.map f = M f l) → FlatR ⟨.agg [.own 1 (M rowS f.secs), .own 2 (M Wr.row f.cache), .own 5 [], .y (yN 1), .y (yN 200)], []⟩ := fun M hM => by
    refine ⟨?_, ?_⟩
    · intro a ha
      simp only [RV.cells, List.mem_cons, List.not_mem_nil, or_false] at ha
      rcases ha with rfl | rfl | rfl | rfl | rfl
      · exact fun x hx y hy => flat_rows flatS f.secs x (by rw [hM]; exact hx) y hy
      · exact fun x hx y hy => flat_rows flatWr f.cache x (by rw [hM]; exact hx) y hy
      · exact fun x hx => absurd hx (by simp)
      · trivial
      · trivial
    · intro a ha
      exact absurd ha (by simp)
  obtain ⟨M, hM⟩ := mapEx
  try simp only [hM]
  refine go Try.func11 rfl rfl rfl rfl fun pAdd pSub pMul pQuo pRem pAnd pOr pXor pAndNot pShl pShr pNeg pCompl pConv pLt pLe pEq pSlt pSle pSeq pCat pCatOk pSlen pSsub pSat pIadd pIsub pBnot pBeq pImin pImax pLlen pLsub pLapp pLset pLcopy pLenOk pBytes pRep hF Ca hC r hr => ?_
  cbv
  refine callI hC (by have hh := cs; (try simp only [hM] at hh); exact hh) ?_
  cbv
  refine callI hC (by have hh := ci; (try simp only [hM] at hh); exact hh) ?_
  cbv
  refine ⟨flat M hM, ?_⟩
  refine callB hC (by have hh := ce; (try simp only [hM] at hh); exact hh) (fun hh => ?_) (fun hh => by cases hh)
  try cbv
  refine callI hC (by have hh := cm; (try simp only [hM] at hh); exact hh) ?_
  cbv
  refine callI hC (by have hh := ch; (try simp only [hM] at hh); exact hh) ?_
  cbv
  refine brF (mkNlt hF (Int.natCast_nonneg _)) ?_
  try cbv
  refine brT (mkEq hF rfl) ?_
  try cbv
  refine callI hC (by have hh := ci; (try simp only [hM] at hh); exact hh) ?_
  cbv
  refine ⟨flat M hM, ?_⟩
  refine callB hC (by have hh := ce; (try simp only [hM] at hh); exact hh) (fun hh => ?_) (fun hh => by cases hh)
  try cbv
  refine callI hC (by have hh := ch; (try simp only [hM] at hh); exact hh) ?_
  cbv
  refine brF (mkNlt hF (Int.natCast_nonneg _)) ?_
  try cbv
  refine brT (mkEq hF rfl) ?_
  try cbv
  exact hr.symm
end Go.Proofs.Ytocjbababdlilaa
