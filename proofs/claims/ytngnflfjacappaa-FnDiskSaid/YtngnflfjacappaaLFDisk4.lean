/- Functions of the program, each with what it returns, run by the evaluator; the conditions stand in the theorems. -/
import Derived.Test.YtngnflfjacappaaLFDisk3
namespace Go.Proofs.Ytngnflfjacappaa
open Go Go.Proofs.YtngnflfjacappaaW Go.Proofs
set_option linter.unusedVariables false
set_option linter.unusedSimpArgs false
set_option maxRecDepth 100000
set_option maxHeartbeats 8000000
theorem cutG {G H R : Prop} (f : (H → G) → R) (g : H → G) : R := f g
theorem flatR_0 (t : ByteArray) (c : Int) : FlatR ⟨.agg [.own 1 [], .own 2 [], .y (yS t), .y (yN c)], []⟩ := by
  refine ⟨fun a ha => ?_, fun a ha => absurd ha (by simp)⟩
  simp only [RV.cells, List.mem_cons, List.not_mem_nil, or_false] at ha
  rcases ha with rfl | rfl | rfl | rfl
  · exact fun x hx => absurd hx (by simp)
  · exact fun x hx => absurd hx (by simp)
  · trivial
  · trivial
theorem lawDisk_ok (code more : List UInt8) : CallOK Try.prog 3 [.c (.y (.sl 1 (bytesL code))), .c (.y (.sl 1 (bytesL more)))] (B true) := by
  have cc : code.length ≤ 1048576 → IsCode (bytesL code) := fun h => ⟨code, rfl, h⟩
  have cm : more.length ≤ 1048576 → IsCode (bytesL more) := fun h => ⟨more, rfl, h⟩
  have lc : (bytesL code).length = code.length := by rw [bytesL, List.length_map]
  have lm : (bytesL more).length = more.length := by rw [bytesL, List.length_map]
  obtain ⟨xs, hx⟩ : ∃ xs, xs = bytesL code := ⟨_, rfl⟩
  obtain ⟨ys, hy⟩ : ∃ xs, xs = bytesL more := ⟨_, rfl⟩
  rw [← hx] at cc lc ⊢
  rw [← hy] at cm lm ⊢
  clear hx hy
  obtain ⟨M, hM⟩ := mapEx
  try simp only [hM]
  refine go Try.func3 rfl rfl rfl rfl fun pAdd pSub pMul pQuo pRem pAnd pOr pXor pAndNot pShl pShr pNeg pCompl pConv pLt pLe pEq pSlt pSle pSeq pCat pCatOk pSlen pSsub pSat pIadd pIsub pBnot pBeq pImin pImax pLlen pLsub pLapp pLset pLcopy pLenOk pBytes pRep hF Ca hC r hr => ?_
  cbv
  have fD := flatR_D
  have fDO := flatR_DO
  have cDr := @drawDiskWrite_q
  have ciW := iDiskWrite_ok
  have csW := sDiskWrite_ok
  have ciR := iDiskRead_ok
  have csR := sDiskRead_ok
  have ciF := iFlush_ok
  have ciC := iCrash_ok
  have ciG := iDiskRight_ok
  simp only [outD0] at ciR csR
  simp only [ownD] at ciF ciC
  simp only [hM] at fD fDO cDr ciW csW ciR csR ciF ciC ciG
  refine brkI (fun h => ?_) (fun h => ?_) <;> try cbv
  · exact hr.symm
  have h := ltF hF h
  rw [show pLlen xs = Int.ofNat code.length from (llenIs hF _).trans (by rw [lc]; rfl)] at h
  refine brkI (fun h2 => ?_) (fun h2 => ?_) <;> try cbv
  · exact hr.symm
  have h2 := ltF hF h2
  rw [show pLlen ys = Int.ofNat more.length from (llenIs hF _).trans (by rw [lm]; rfl)] at h2
  have cc := cc (by ((try simp only [Int.ofNat_eq_natCast] at *); omega))
  have cm := cm (by ((try simp only [Int.ofNat_eq_natCast] at *); omega))
  refine callQ hC (cDr cc) ?_
  rintro r ⟨d, q, t, hd, hq, ht, rfl⟩
  cbv
  have bd := hd.bd
  have cW1 := ciW d q t bd hq (by rw [maxLen_is]; omega)
  have cW2 := csW d q t bd hq
  have hwr := @wrote_of d q t
  have hbD := dwDisk_bd q t bd
  obtain ⟨D, hD⟩ : ∃ x, x = dwDisk d q t := ⟨_, rfl⟩
  obtain ⟨c, hc⟩ : ∃ x, x = dwCode d q t := ⟨_, rfl⟩
  rw [← hD, ← hc] at cW1 cW2 hwr
  rw [← hD] at hbD
  refine callI hC cW1 ?_
  cbv
  refine ⟨fDO D _ _, ?_⟩
  refine callI hC cW2 ?_
  cbv
  refine ⟨(fDO D _ _).1, ?_⟩
  try cbv
  refine brT (mkEq hF rfl) ?_
  try cbv
  refine brkI (fun h3 => ?_) (fun h3 => ?_) <;> try cbv
  rotate_left
  · refine callI hC cW2 ?_
    cbv
    refine ⟨(fDO D _ _).1, ?_⟩
    try cbv
    refine brT (mkEq hF rfl) ?_
    try cbv
    exact hr.symm
  have h3 := eqT hF h3
  obtain ⟨A, hA, w⟩ := hwr h3
  subst hA
  have w1 := w.lies
  have w2 := w.ok
  have dl := diskRight_lens w.right
  have hm4 : manyOf t ≤ 16 := by rw [manyOf]; omega
  obtain ⟨mm, hmm⟩ : ∃ x, x = manyOf t := ⟨_, rfl⟩
  have e1 : pSub .i64 (pAdd .i64 (pSlen t) 64) 1 = Int.ofNat (t.size + 63) := by
    rw [show pSlen t = Int.ofNat t.size from slenIs hF t, show pAdd .i64 (Int.ofNat t.size) 64 = Int.ofNat (t.size + 64) from (addIs hF (by ((try simp only [Int.ofNat_eq_natCast] at *); omega)) (by ((try simp only [Int.ofNat_eq_natCast] at *); omega))).trans (by ((try simp only [Int.ofNat_eq_natCast] at *); omega))]
    exact (subIs hF (by ((try simp only [Int.ofNat_eq_natCast] at *); omega)) (by ((try simp only [Int.ofNat_eq_natCast] at *); omega))).trans (by ((try simp only [Int.ofNat_eq_natCast] at *); omega))
  have e2 : pQuo .i64 (Int.ofNat (t.size + 63)) 64 = Int.ofNat mm := by rw [hmm, manyOf]; exact quo64 hF _ (by omega)
  rw [e1]
  refine brF (mkNe hF (by decide)) ?_
  try cbv
  rw [e2]
  have iA : I64 (Int.ofNat A) := ⟨by ((try simp only [Int.ofNat_eq_natCast] at *); omega), by ((try simp only [Int.ofNat_eq_natCast] at *); omega)⟩
  have iM : I64 (Int.ofNat mm) := ⟨by ((try simp only [Int.ofNat_eq_natCast] at *); omega), by ((try simp only [Int.ofNat_eq_natCast] at *); omega)⟩
  have rf := rd_flush w2 (Int.ofNat A) (Int.ofNat mm)
  have tf := rd_wrote w (by omega)
  rw [← hmm] at tf w1 hm4
  have tb := text_back t
  rw [← hmm, ← tf.1] at tb
  have cr1 := ciR D (Int.ofNat A) (Int.ofNat mm) hbD iA iM
  have cr2 := ciR (flush D) (Int.ofNat A) (Int.ofNat mm) (flush_bd hbD) iA iM
  rw [rf.1, rf.2, tf.2] at cr2
  rw [tf.2] at cr1
  have cfl := ciF D hbD
  have cgd := ciG D (Dsk.big hbD)
  rw [w2] at cgd
  have ccr := ciC D (List.replicate D.cache.length true) hbD (by rw [List.length_replicate, maxLen_is]; have := hbD.2.1.1; omega)
  rw [crash_all w2] at ccr
  have cnl := ciC d [] bd (Nat.zero_le _)
  have bF := flush_bd hbD
  have rF1 : ∀ i : Nat, i < D.secs.length → rdText (flush D) (Int.ofNat i) 1 = rdText D (Int.ofNat i) 1 := fun i _ => (rd_flush w2 (Int.ofNat i) 1).1
  have rC1 : ∀ i : Nat, i < d.secs.length → rdText (crash d []) (Int.ofNat i) 1 = d.secs.getD i noB := fun i hi => rd_crash w.right hi
  have rO1 : ∀ k : Nat, k < d.secs.length → (k < A ∨ A + mm ≤ k) → rdText D (Int.ofNat k) 1 = rdText d (Int.ofNat k) 1 := fun k hk h => rd_other w hk (by rw [← hmm]; exact h)
  have hDs : D.secs.length = d.secs.length := by rw [w.secs]
  have bC := crash_bd bd []
  obtain ⟨F, hFd⟩ : ∃ x, x = flush D := ⟨_, rfl⟩
  rw [← hFd] at cr2 cfl ccr bF rF1
  obtain ⟨G, hGd⟩ : ∃ x, x = crash d [] := ⟨_, rfl⟩
  rw [← hGd] at cnl rC1 bC
  obtain ⟨tx, htx⟩ : ∃ x, x = rdText D (Int.ofNat A) (Int.ofNat mm) := ⟨_, rfl⟩
  rw [← htx] at cr1 cr2 tb
  obtain ⟨ts, tx0⟩ := tb
  have f0 := flatR_0
  refine callI hC cr1 ?_
  cbv
  refine ⟨f0 _ _, ?_⟩
  refine callI hC cfl ?_
  cbv
  refine ⟨fD F, ?_⟩
  refine callI hC cr2 ?_
  cbv
  refine ⟨f0 _ _, ?_⟩
  refine callI hC cgd ?_
  cbv
  have etx : pSlen tx = Int.ofNat (64 * mm) := (slenIs hF tx).trans (by rw [ts]; rfl)
  have emm : pMul .i64 (Int.ofNat mm) 64 = Int.ofNat (64 * mm) := (mulIs hF (by ((try simp only [Int.ofNat_eq_natCast] at *); omega)) (by ((try simp only [Int.ofNat_eq_natCast] at *); omega))).trans (by ((try simp only [Int.ofNat_eq_natCast] at *); omega))
  have hts : t.size ≤ 64 * mm := by rw [hmm, manyOf]; omega
  refine brT (mkSeq hF rfl) ?_
  try cbv
  refine brT (mkEq hF rfl) ?_
  try cbv
  rw [etx, emm]
  refine brT (mkEq hF rfl) ?_
  try cbv
  have elt : pSlen t = Int.ofNat t.size := slenIs hF t
  have ess : pSsub tx 0 (pSlen t) = t := by
    rw [elt]
    have : prims.ssub tx 0 (Int.ofNat t.size) = tx.extract 0 t.size := rfl
    rw [hF] at this; exact this.trans tx0
  refine brT (by rw [elt]; exact zeroLe hF _) ?_
  try cbv
  refine brT (mkLe hF (by rw [elt, etx]; ((try simp only [Int.ofNat_eq_natCast] at *); omega))) ?_
  try cbv
  rw [ess]
  refine brT (mkSeq hF rfl) ?_
  try cbv
  have ln : ∀ {α : Type} (f : α → List Y) (l : List α), pLlen (M f l) = Int.ofNat l.length := fun f l => (llenIs hF (M f l)).trans (by rw [← hM, List.length_map]; rfl)
  obtain ⟨n, hn⟩ : ∃ n, n = D.cache.length := ⟨_, rfl⟩
  have hn4 : n ≤ 400 := by rw [hn]; exact (diskRight_lens w2).2
  have enn : pLlen (M Wr.row D.cache) = Int.ofNat n := (ln _ _).trans (by rw [hn])
  rw [enn]
  refine brT (zeroLe hF n) ?_
  try cbv
  refine brT (leSelf hF _) ?_
  try cbv
  refine brT (lenOkIs hF (by ((try simp only [Int.ofNat_eq_natCast] at *); omega))) ?_
  try cbv
  obtain ⟨L, hL⟩ : ∃ L, L = List.replicate n true := ⟨_, rfl⟩
  have hLl : L.length = n := by rw [hL, List.length_replicate]
  have f1 := fill_zero rowB [yB false] L
  have f2 := fun i (h : i < L.length) => fill_get rowB [yB false] L h
  have f3 := fun i (h : i < L.length) => fill_set rowB [yB false] L h
  have f4 := fill_end rowB [yB false] L
  have f5 := fun i (h : i ≤ L.length) => fill_len rowB [yB false] L h
  obtain ⟨FL, hFL⟩ : ∃ f, f = fill rowB [yB false] L := ⟨_, rfl⟩
  rw [← hFL] at f1 f2 f3 f4 f5
  have er : pRep (Int.ofNat n) [Y.sc (Value.bool false)] = FL 0 := by
    rw [← f1, hLl]; exact repIs hF n _
  rw [er]
  rw [← hn, ← hL] at ccr
  rw [hM] at f4
  rw [← f4, hLl] at ccr
  have f3 : ∀ i, i < n → pLset (FL i) (Int.ofNat i) [Y.sc (.bool true)] = FL (i + 1) := fun i hi => by
    have := f3 i (by omega)
    rw [show L[i]'(by omega) = true from by simp [hL], hF] at this
    exact this
  have f5 : ∀ i, i ≤ n → pLlen (FL i) = Int.ofNat n := fun i hi => (llenIs hF _).trans (by rw [f5 i (by omega), hLl]; rfl)
  clear hFL f1 f4 hL
  refine loop_u (α := Nat) (fun i st => (st.n 13 (Int.ofNat i)).ob 12001 (.ar 1 (FL i))) (fun i => i ≤ n) (fun i => n - i) 0 rfl (Nat.zero_le _) (fun K' hK I i hi ih => ?_)
  cbv
  rw [f5 i hi]
  refine brkI (fun h => ?_) (fun h => ?_) <;> try cbv
  · have h := ltT hF h
    have hi2 : i < n := by ((try simp only [Int.ofNat_eq_natCast] at *); omega)
    refine brT (zeroLe hF i) ?_
    try cbv
    refine brT (mkLt hF (by rw [f5 i hi]; ((try simp only [Int.ofNat_eq_natCast] at *); omega))) ?_
    try cbv
    refine ⟨_, ⟨Int.natCast_nonneg _, f2 i (by omega)⟩, ?_⟩
    cbv
    conv => arg 1; cbv
    rw [f3 i hi2, show pAdd .i64 (Int.ofNat i) 1 = Int.ofNat (i + 1) from add1Is hF (by omega)]
    exact ih (i + 1) _ (by omega) (by omega) rfl
  have h := ltF hF h
  have hi : i = n := by ((try simp only [Int.ofNat_eq_natCast] at *); omega)
  subst hi
  refine hK _ _ ?_
  cbv
  refine callI hC ccr ?_
  cbv
  refine ⟨fD F, ?_⟩
  obtain ⟨ns, hns⟩ : ∃ n, n = d.secs.length := ⟨_, rfl⟩
  have ens : pLlen (M rowS d.secs) = Int.ofNat ns := (ln _ _).trans (by rw [hns])
  have hns7 : ns ≤ 700 := by omega
  rw [ens]
  refine callQ hC (lwAt_q cm 0 _ (by decide) ⟨by decide, by decide⟩ (by ((try simp only [Int.ofNat_eq_natCast] at *); omega))) ?_
  rintro r ⟨k, k0, k1, rfl⟩
  cbv
  rw [ens]
  have eAm : pAdd .i64 (Int.ofNat A) (Int.ofNat mm) = Int.ofNat (A + mm) := addNIs hF (by omega)
  refine cutG (G := ?G) (H := True) (fun key => ?main) (fun _ => ?rest)
  case main =>
    have rd : (k < Int.ofNat A ∨ Int.ofNat (A + mm) ≤ k) → 0 < ns → ∃ tt e1 e2, CallOK Try.prog 8 [.agg [.y (.sl 1 (M rowS D.secs)), .y (.sl 2 (M Wr.row D.cache))], aN k, aN 1] ⟨.agg [.own 1 [], .own 2 [], .y (yS tt), .y (yN e1)], []⟩ ∧
        CallOK Try.prog 13 [.agg [.y (.sl 1 (M rowS d.secs)), .y (.sl 2 (M Wr.row d.cache))], aN k, aN 1] ⟨.agg [.own 1 [], .own 2 [], .y (yS tt), .y (yN e2)], []⟩ := fun hk hp => by
      obtain ⟨kk, rfl⟩ : ∃ n : Nat, k = Int.ofNat n := ⟨k.toNat, (Int.toNat_of_nonneg k0).symm⟩
      have hkn : kk < ns := k1.elim Int.ofNat_lt.1 fun e => by have : kk = 0 := Int.ofNat.inj e; omega
      have := rO1 kk (by omega) (hk.imp Int.ofNat_lt.1 Int.ofNat_le.1)
      have i1 : I64 (Int.ofNat kk) := ⟨by ((try simp only [Int.ofNat_eq_natCast] at *); omega), by ((try simp only [Int.ofNat_eq_natCast] at *); omega)⟩
      refine ⟨rdText D (Int.ofNat kk) 1, rdCode D (Int.ofNat kk) 1, rdCode d (Int.ofNat kk) 1, ciR D (Int.ofNat kk) 1 hbD i1 ⟨by decide, by decide⟩, ?_⟩
      rw [this]
      exact csR d (Int.ofNat kk) 1 bd i1 ⟨by decide, by decide⟩
    have rdT : 0 < ns → (k < Int.ofNat A ∨ Int.ofNat (A + mm) ≤ k) → _ := fun h1 h2 => rd h2 h1
    refine brkI (fun g1 => ?_) (fun g1 => ?_) <;> try cbv
    rotate_left
    · exact key trivial
    have g1 := ltT hF g1
    refine brkI (fun g2 => ?_) (fun g2 => ?_) <;> try cbv
    · have g2 := ltT hF g2
      obtain ⟨tt, e3, e4, r1, r2⟩ := rdT (by ((try simp only [Int.ofNat_eq_natCast] at *); omega)) (Or.inl g2)
      refine callI hC r1 ?_
      cbv
      refine ⟨(f0 _ _).1, ?_⟩
      try cbv
      refine callI hC r2 ?_
      cbv
      refine ⟨(f0 _ _).1, ?_⟩
      try cbv
      refine brT (mkSeq hF rfl) ?_
      try cbv
      exact key trivial
    · rw [eAm]
      refine brkI (fun g3 => ?_) (fun g3 => ?_) <;> try cbv
      rotate_left
      · exact key trivial
      have g3 := leT hF g3
      obtain ⟨tt, e3, e4, r1, r2⟩ := rdT (by ((try simp only [Int.ofNat_eq_natCast] at *); omega)) (Or.inr g3)
      refine callI hC r1 ?_
      cbv
      refine ⟨(f0 _ _).1, ?_⟩
      try cbv
      refine callI hC r2 ?_
      cbv
      refine ⟨(f0 _ _).1, ?_⟩
      try cbv
      refine brT (mkSeq hF rfl) ?_
      try cbv
      exact key trivial
  refine loop_u (α := Nat) (fun i st => (st.n 16 (Int.ofNat i))) (fun i => i ≤ ns) (fun i => ns - i) 0 rfl (Nat.zero_le _) (fun K' hK I i hi ih => ?_)
  cbv
  rw [ens]
  refine brkI (fun h => ?_) (fun h => ?_) <;> try cbv
  rotate_left
  · refine hK _ _ ?_
    cbv
    exact hr.symm
  have h := ltT hF h
  have hi2 : i < ns := by ((try simp only [Int.ofNat_eq_natCast] at *); omega)
  have i1 : I64 (Int.ofNat i) := ⟨by ((try simp only [Int.ofNat_eq_natCast] at *); omega), by ((try simp only [Int.ofNat_eq_natCast] at *); omega)⟩
  have d1 : I64 1 := ⟨by decide, by decide⟩
  have q1 := ciR F (Int.ofNat i) 1 bF i1 d1
  have q2 := ciR D (Int.ofNat i) 1 hbD i1 d1
  have q3 := ciR G (Int.ofNat i) 1 bC i1 d1
  rw [rF1 i (by omega)] at q1
  rw [rC1 i (by omega)] at q3
  obtain ⟨u, hu⟩ : ∃ u, u = d.secs.getD i noB := ⟨_, rfl⟩
  have hget : (M rowS d.secs)[i]? = some [Y.sc (.string u)] := by
    rw [← hM, List.getElem?_map, List.getElem?_eq_getElem (by omega), hu, getD_at (by omega)]; rfl
  rw [← hu] at q3
  obtain ⟨y1, hy1⟩ : ∃ y, y = rdCode F (Int.ofNat i) 1 := ⟨_, rfl⟩
  obtain ⟨y2, hy2⟩ : ∃ y, y = rdCode D (Int.ofNat i) 1 := ⟨_, rfl⟩
  obtain ⟨y3, hy3⟩ : ∃ y, y = rdCode G (Int.ofNat i) 1 := ⟨_, rfl⟩
  obtain ⟨x2, hx2⟩ : ∃ y, y = rdText D (Int.ofNat i) 1 := ⟨_, rfl⟩
  rw [← hx2] at q1 q2
  rw [← hy1] at q1
  rw [← hy2] at q2
  rw [← hy3] at q3
  refine callI hC q1 ?_
  cbv
  refine ⟨(f0 _ _).1, ?_⟩
  try cbv
  refine callI hC q2 ?_
  cbv
  refine ⟨(f0 _ _).1, ?_⟩
  try cbv
  refine brT (mkSeq hF rfl) ?_
  try cbv
  rw [show M rowB ([] : List Bool) = [] from (hM _ _).symm] at cnl
  refine callI hC cnl ?_
  cbv
  refine ⟨(fD G).1, ?_⟩
  try cbv
  refine callI hC q3 ?_
  cbv
  refine ⟨(f0 _ _).1, ?_⟩
  try cbv
  refine brT (zeroLe hF i) ?_
  try cbv
  refine brT (mkLt hF (by rw [ens]; ((try simp only [Int.ofNat_eq_natCast] at *); omega))) ?_
  try cbv
  refine ⟨_, ⟨Int.natCast_nonneg _, hget⟩, ?_⟩
  cbv
  refine brT (mkSeq hF rfl) ?_
  try cbv
  conv => arg 1; cbv
  rw [show pAdd .i64 (Int.ofNat i) 1 = Int.ofNat (i + 1) from add1Is hF (by omega)]
  exact ih (i + 1) _ (by omega) (by omega) rfl
end Go.Proofs.Ytngnflfjacappaa
