/- Functions of the program, each with what it returns, run by the evaluator; the conditions stand in the theorems. -/
import Derived.Test.YtngnflfjacappaaLFLog1
import Derived.Test.YtngnflfjacappaaLFLogP
namespace Go.Proofs.Ytngnflfjacappaa
open Go Go.Proofs.YtngnflfjacappaaW Go.Proofs
set_option linter.unusedVariables false
set_option linter.unusedSimpArgs false
set_option maxRecDepth 100000
set_option maxHeartbeats 8000000
theorem flatR_L (l : List Rcd) (n c : Int) : FlatR ⟨.agg [.own 2 (l.map Rcd.row), .y (yN n), .y (yN c)], []⟩ := by
  refine ⟨fun a ha => ?_, fun a ha => absurd ha (by simp)⟩
  simp only [RV.cells, List.mem_cons, List.not_mem_nil, or_false] at ha
  rcases ha with rfl | rfl | rfl
  · exact fun x hx y hy => flat_rows flatRcd l x hx y hy
  · trivial
  · trivial
theorem callE {P : Program} {Ca : Contract} (hC : CallC P = Ca) {α : Type} {H : α → Prop} {f : FuncId} {ar : List A} {R : α → Res} {K : RQ → Prop} (h : ∃ C, H C ∧ CallOK P f ar (R C)) (k : ∀ C, H C → K (.one (R C))) : ∃ q, Ca f ar q ∧ K q := by
  obtain ⟨C, h1, h2⟩ := h
  exact callI hC h2 (k C h1)
theorem cutD {α : Type} {G : α → Prop} {H : α → Prop} {R : Prop} (f : (∀ a, H a → G a) → R) (g : ∀ a, H a → G a) : R := f g
theorem lawLog_ok (code more : List UInt8) : CallOK Try.prog 4 [.c (.y (.sl 1 (bytesL code))), .c (.y (.sl 1 (bytesL more)))] (B true) := by
  have cc : code.length ≤ 1048576 → IsCode (bytesL code) := fun h => ⟨code, rfl, h⟩
  have cm := drawSeal_ok more
  have lw := fun h i most hi hm => lwAt_ok more h i most hi hm
  have lc : (bytesL code).length = code.length := by rw [bytesL, List.length_map]
  have lm : (bytesL more).length = more.length := by rw [bytesL, List.length_map]
  obtain ⟨xs, hx⟩ : ∃ xs, xs = bytesL code := ⟨_, rfl⟩
  obtain ⟨ys, hy⟩ : ∃ xs, xs = bytesL more := ⟨_, rfl⟩
  rw [← hx] at cc lc ⊢
  rw [← hy] at cm lm lw ⊢
  clear hx hy
  obtain ⟨M, hM⟩ := mapEx
  try simp only [hM]
  refine go Try.func4 rfl rfl rfl rfl fun pAdd pSub pMul pQuo pRem pAnd pOr pXor pAndNot pShl pShr pNeg pCompl pConv pLt pLe pEq pSlt pSle pSeq pCat pCatOk pSlen pSsub pSat pIadd pIsub pBnot pBeq pImin pImax pLlen pLsub pLapp pLset pLcopy pLenOk pBytes pRep hF Ca hC r hr => ?_
  cbv
  have fD := flatR_D
  have fDO := flatR_DO
  have fL := flatR_L
  have cDr := @drawLogRead_q
  have ciL := iLogRead_ok
  have csL := sLogRead_ok
  have ciA := iLogAppend_ok
  have csA := sLogAppend_ok
  have csF := sFlush_ok
  have ciC := iCrash_ok
  simp only [ownD] at csF ciC
  simp only [loRes] at ciL csL
  simp only [appRes] at ciA csA
  simp only [hM] at fD fDO fL cDr ciL csL ciA csA csF ciC
  refine brkI (fun h => ?_) (fun h => ?_) <;> try cbv
  · exact hr.symm
  have h := ltF hF h
  rw [show pLlen xs = Int.ofNat code.length from (llenIs hF _).trans (by rw [lc]; rfl)] at h
  refine brkI (fun h2 => ?_) (fun h2 => ?_) <;> try cbv
  · exact hr.symm
  have h2 := ltF hF h2
  rw [show pLlen ys = Int.ofNat more.length from (llenIs hF _).trans (by rw [lm]; rfl)] at h2
  have cc := cc (by ((try simp only [Int.ofNat_eq_natCast] at *); omega))
  have hm1 : more.length ≤ 1048576 := by ((try simp only [Int.ofNat_eq_natCast] at *); omega)
  obtain ⟨u, hu, cS⟩ := cm hm1
  have lw := lw hm1
  clear cm
  refine callQ hC (cDr cc) ?_
  rintro r ⟨d, q, s, hd, hq, hs, rfl⟩
  cbv
  have bd := hd.bd
  have c1 := ciL d q s bd hq
  have c2 := csL d q s bd hq
  have sm := lrList_small d q s
  have sq := @lr_seq d q s
  have kL : lrCode d q s = 0 → apCode (flush d) (lrNext d q s) (s + Int.ofNat (lrList d q s).length) u = 0 → recordBytes (s + Int.ofNat (lrList d q s).length) u ≠ ⟨⟨[]⟩⟩ → LogLaw d q s u := fun h1 h2 h3 => ⟨h1, h2, h3⟩
  have kR := @law_read d q s u
  have kC := fun w keep hk => @law_crash d q s u w keep hk
  have bF := flush_bd bd
  have nI : I64 (lrNext d q s) := by
    rw [lrNext]
    split
    · rename_i ho
      have hr := (lr_parts ho).1
      have := (logGo_len (hasD_64 hr) 701 q.toNat s (by obtain ⟨_, A, hA, hAl, _⟩ := lr_parts ho; rw [hasD_len, hA]; exact Nat.le_of_lt hAl)).2.1
      have h7 := (diskRight_lens hr).1
      rw [hasD_len] at this
      exact ⟨by ((try simp only [Int.ofNat_eq_natCast] at *); omega), by ((try simp only [Int.ofNat_eq_natCast] at *); omega)⟩
    · exact ⟨by decide, by decide⟩
  have sI : lrCode d q s = 0 → 1 ≤ s ∧ s ≤ 1000000000 := fun h => by obtain ⟨_, A, _, _, h1, h2⟩ := lr_parts (lrOk_of h); exact ⟨h1, h2⟩
  obtain ⟨L, hL⟩ : ∃ x, x = lrList d q s := ⟨_, rfl⟩
  obtain ⟨nx, hnx⟩ : ∃ x, x = lrNext d q s := ⟨_, rfl⟩
  obtain ⟨cd, hcd⟩ : ∃ x, x = lrCode d q s := ⟨_, rfl⟩
  rw [← hL, ← hnx, ← hcd] at c1 c2 kL
  rw [← hL] at sm
  rw [← hcd] at sI
  rw [← hnx] at nI
  have sq : ∀ i u, L[i]? = some u → u.seq = s + Int.ofNat i := fun i u hi => by
    subst hL
    obtain ⟨h1, h2⟩ := List.getElem?_eq_some_iff.1 hi
    rw [← h2]; exact sq h1
  have ln : ∀ {α : Type} (f : α → List Y) (l : List α), pLlen (M f l) = Int.ofNat l.length := fun f l => (llenIs hF (M f l)).trans (by rw [← hM, List.length_map]; rfl)
  refine callI hC c1 ?_
  cbv
  refine ⟨fL L _ _, ?_⟩
  refine callI hC c2 ?_
  cbv
  refine brT (mkEq hF rfl) ?_
  try cbv
  refine brT (mkEq hF rfl) ?_
  try cbv
  refine brT (mkEq hF rfl) ?_
  try cbv
  refine brkI (fun h3 => ?_) (fun h3 => ?_) <;> try cbv
  rotate_left
  · exact hr.symm
  have h3 := eqT hF h3
  obtain ⟨s1, s2⟩ := sI h3
  obtain ⟨nl, hnl⟩ : ∃ x, x = L.length := ⟨_, rfl⟩
  have enl : pLlen (M Rcd.row L) = Int.ofNat nl := (ln _ _).trans (by rw [hnl])
  have hnl7 : nl ≤ 700 := by rw [hnl]; exact sm.1
  refine loop_u (α := Nat) (fun i st => st.n 10 (Int.ofNat i)) (fun i => i ≤ nl) (fun i => nl - i) 0 rfl (Nat.zero_le _) (fun K' hK I i hi ih => ?_)
  cbv
  rw [enl]
  refine brkI (fun h => ?_) (fun h => ?_) <;> try cbv
  · have h := ltT hF h
    have hi2 : i < nl := by ((try simp only [Int.ofNat_eq_natCast] at *); omega)
    obtain ⟨e, he⟩ : ∃ e, e = L[i]'(by omega) := ⟨_, rfl⟩
    have he2 : L[i]? = some e := by rw [List.getElem?_eq_getElem (by omega), he]
    have hget : (M Rcd.row L)[i]? = some [Y.sc (.int .i64 e.seq), Y.sc (.string e.text)] := by
      rw [← hM, List.getElem?_map, he2]; rfl
    have hseq := sq i e he2
    have e3 : e.seq = pAdd .i64 s (Int.ofNat i) := hseq.trans (addIs hF (by ((try simp only [Int.ofNat_eq_natCast] at *); omega)) (by ((try simp only [Int.ofNat_eq_natCast] at *); omega))).symm
    repeat' (first
      | (refine brT (zeroLe hF i) ?_; try cbv)
      | (refine brT (mkLt hF (by rw [enl]; ((try simp only [Int.ofNat_eq_natCast] at *); omega))) ?_; try cbv)
      | (refine ⟨_, ⟨Int.natCast_nonneg _, hget⟩, ?_⟩; cbv)
      | (refine brT (mkEq hF rfl) ?_; try cbv)
      | (refine brT (mkSeq hF (Eq.refl e.text)) ?_; try cbv)
      | (refine brT (mkEq hF e3) ?_; try cbv)
      | fail "no")
    conv => arg 1; cbv
    rw [show pAdd .i64 (Int.ofNat i) 1 = Int.ofNat (i + 1) from add1Is hF (by omega)]
    exact ih (i + 1) _ (by omega) (by omega) rfl
  refine hK _ _ ?_
  cbv
  obtain ⟨n, hn⟩ : ∃ n, n = s + Int.ofNat nl := ⟨_, rfl⟩
  have en : pAdd .i64 s (Int.ofNat nl) = n := (addIs hF (by ((try simp only [Int.ofNat_eq_natCast] at *); omega)) (by ((try simp only [Int.ofNat_eq_natCast] at *); omega))).trans hn.symm
  have aA := ciA (flush d) nx n u bF nI
  have aS := csA (flush d) nx n u bF nI
  have bX := apDisk_bd nx n u bF
  have kL : apCode (flush d) nx n u = 0 → recordBytes n u ≠ ⟨⟨[]⟩⟩ → LogLaw d q s u := fun h1 h2 => by
    rw [hn, hnl] at h1 h2
    exact kL h3 h1 h2
  have kR : LogLaw d q s u → ∃ t, lrList (apDisk (flush d) nx n u) q s = L ++ (⟨n, u⟩ : Rcd) :: t := fun w => by
    have := kR w
    rw [← hnx, ← hL, ← hnl, ← hn] at this
    exact this
  have kC : LogLaw d q s u → ∀ keep : List Bool, keep.length ≤ 400 → nl ≤ (lrList (crash (apDisk (flush d) nx n u) keep) q s).length := fun w keep hk => by
    have := kC w keep hk
    rw [← hnx, ← hL, ← hnl, ← hn] at this
    exact this
  have cFl := csF d bd
  have rB := sRecordBytes_ok n u
  obtain ⟨F, hFd⟩ : ∃ x, x = flush d := ⟨_, rfl⟩
  rw [← hFd] at aA aS cFl kL kR kC bX
  obtain ⟨X, hX⟩ : ∃ x, x = apDisk F nx n u := ⟨_, rfl⟩
  obtain ⟨ac, hac⟩ : ∃ x, x = apCode F nx n u := ⟨_, rfl⟩
  obtain ⟨rb, hrb⟩ : ∃ x, x = recordBytes n u := ⟨_, rfl⟩
  rw [← hX, ← hac] at aA aS
  rw [← hX] at kR kC bX
  rw [← hac, ← hrb] at kL
  rw [← hrb] at rB
  refine callI hC cS ?_
  cbv
  refine callI hC cFl ?_
  cbv
  (try refine ⟨(fD F).1, ?_⟩)
  try cbv
  rw [enl, en]
  refine callI hC aA ?_
  cbv
  refine ⟨(fDO X _ _).1, ?_⟩
  try cbv
  refine brkI (fun h4 => ?_) (fun h4 => ?_) <;> try cbv
  rotate_left
  · refine callI hC cFl ?_
    cbv
    (try refine ⟨(fD F).1, ?_⟩)
    try cbv
    refine callI hC aS ?_
    cbv
    refine ⟨(fDO _ _ _).1, ?_⟩
    try cbv
    refine brT (mkEq hF rfl) ?_
    try cbv
    exact hr.symm
  have h4 := eqT hF h4
  refine callI hC rB ?_
  cbv
  refine brkI (fun h5 => ?_) (fun h5 => ?_) <;> try cbv
  · refine callI hC cFl ?_
    cbv
    (try refine ⟨(fD F).1, ?_⟩)
    try cbv
    refine callI hC aS ?_
    cbv
    refine ⟨(fDO _ _ _).1, ?_⟩
    try cbv
    refine brT (mkEq hF rfl) ?_
    try cbv
    exact hr.symm
  have h5 := seqF hF h5
  have w := kL h4 h5
  obtain ⟨T, kR⟩ := kR w
  have kC := kC w
  have c3 := ciL X q s bX hq
  have smX := lrList_small X q s
  rw [kR] at c3 smX
  obtain ⟨nx2, hnx2⟩ : ∃ x, x = lrNext X q s := ⟨_, rfl⟩
  obtain ⟨cd2, hcd2⟩ : ∃ x, x = lrCode X q s := ⟨_, rfl⟩
  rw [← hnx2, ← hcd2] at c3
  obtain ⟨L2, hL2⟩ : ∃ x, x = L ++ (⟨n, u⟩ : Rcd) :: T := ⟨_, rfl⟩
  rw [← hL2] at c3
  have hget : (M Rcd.row L2)[nl]? = some [Y.sc (.int .i64 n), Y.sc (.string u)] := by
    rw [← hM, List.getElem?_map, hL2, hnl, List.getElem?_append_right (Nat.le_refl _), Nat.sub_self]; rfl
  obtain ⟨nl2, hnl2⟩ : ∃ x, x = L2.length := ⟨_, rfl⟩
  have enl2 : pLlen (M Rcd.row L2) = Int.ofNat nl2 := (ln _ _).trans (by rw [hnl2])
  have hlt2 : nl < nl2 := by rw [hnl2, hL2, List.length_append, List.length_cons]; omega
  refine callI hC c3 ?_
  cbv
  refine ⟨fL _ _ _, ?_⟩
  try cbv
  rw [enl, enl2]
  refine brF (mkNle hF (by ((try simp only [Int.ofNat_eq_natCast] at *); omega))) ?_
  try cbv
  rw [enl]
  refine brT (zeroLe hF nl) ?_
  try cbv
  refine brT (mkLt hF (by rw [enl2]; ((try simp only [Int.ofNat_eq_natCast] at *); omega))) ?_
  try cbv
  refine ⟨_, ⟨Int.natCast_nonneg _, hget⟩, ?_⟩
  cbv
  refine brT (mkEq hF rfl) ?_
  try cbv
  refine brT (mkSeq hF rfl) ?_
  try cbv
  have lw0 := lw 0 2 (by decide) (by decide)
  have lw1 := lw 1 2 (by decide) (by decide)
  have lw2 := lw 2 2 (by decide) (by decide)
  obtain ⟨v0, hv0⟩ : ∃ x, x = lwVal more 0 2 := ⟨_, rfl⟩
  obtain ⟨v1, hv1⟩ : ∃ x, x = lwVal more 1 2 := ⟨_, rfl⟩
  obtain ⟨v2, hv2⟩ : ∃ x, x = lwVal more 2 2 := ⟨_, rfl⟩
  rw [← hv0] at lw0
  rw [← hv1] at lw1
  rw [← hv2] at lw2
  have cQ : ∀ a b c : Bool, ∃ C : Dsk, (Dsk.Bd 1048576 C ∧ nl ≤ (lrList C q s).length) ∧ CallOK Try.prog 11 [.agg [.y (.sl 1 (M rowS X.secs)), .y (.sl 2 (M Wr.row X.cache))], .c (.y (.sl 1 [[.sc (.bool a)], [.sc (.bool b)], [.sc (.bool c)]]))] ⟨.agg [.own 1 (M rowS C.secs), .own 2 (M Wr.row C.cache)], []⟩ := fun a b c => by
    have := ciC X [a, b, c] bX (by show 3 ≤ maxLen; rw [maxLen_is]; decide)
    rw [← hM rowB] at this
    exact ⟨_, ⟨crash_bd bX _, kC [a, b, c] (by show 3 ≤ 400; decide)⟩, this⟩
  refine callI hC lw0 ?_
  cbv
  refine cutD (G := ?G) (H := fun C => Dsk.Bd 1048576 C ∧ nl ≤ (lrList C q s).length) (fun key => ?main) (fun C hCC => ?rest)
  case main =>
    refine brkI (fun g0 => ?_) (fun g0 => ?_) <;> try cbv
    all_goals (
      refine callI hC lw1 ?_
      cbv
      refine brkI (fun g1 => ?_) (fun g1 => ?_) <;> try cbv)
    all_goals (
      refine callI hC lw2 ?_
      cbv
      refine brkI (fun g2 => ?_) (fun g2 => ?_) <;> try cbv)
    all_goals (
      refine callE hC (cQ _ _ _) fun C hCC => ?_
      cbv
      refine ⟨(fD C).1, ?_⟩
      try cbv
      exact key C hCC)
  have c4 := csL C q s hCC.1 hq
  have c5 := ciL C q s hCC.1 hq
  have sm3 := lrList_small C q s
  obtain ⟨L3, hL3⟩ : ∃ x, x = lrList C q s := ⟨_, rfl⟩
  obtain ⟨nx3, hnx3⟩ : ∃ x, x = lrNext C q s := ⟨_, rfl⟩
  obtain ⟨cd3, hcd3⟩ : ∃ x, x = lrCode C q s := ⟨_, rfl⟩
  rw [← hL3, ← hnx3, ← hcd3] at c4 c5
  obtain ⟨hCb, hCl⟩ := hCC
  rw [← hL3] at hCl sm3
  obtain ⟨nl3, hnl3⟩ : ∃ x, x = L3.length := ⟨_, rfl⟩
  have enl3 : pLlen (M Rcd.row L3) = Int.ofNat nl3 := (ln _ _).trans (by rw [hnl3])
  rw [← hnl3] at hCl
  refine callI hC c4 ?_
  cbv
  rw [enl, enl3]
  have tail : ∀ K : Prop, True := fun _ => trivial
  refine brkI (fun g => ?_) (fun g => ?_) <;> try cbv
  · have g := ltT hF g
    have hlt3 : nl < nl3 := by ((try simp only [Int.ofNat_eq_natCast] at *); omega)
    obtain ⟨e, he⟩ : ∃ e, e = L3[nl]'(by omega) := ⟨_, rfl⟩
    have hget3 : (M Rcd.row L3)[nl]? = some [Y.sc (.int .i64 e.seq), Y.sc (.string e.text)] := by
      rw [← hM, List.getElem?_map, List.getElem?_eq_getElem (by omega), ← he]; rfl
    rw [enl]
    refine brT (zeroLe hF nl) ?_
    try cbv
    refine brT (mkLt hF (by rw [enl3]; ((try simp only [Int.ofNat_eq_natCast] at *); omega))) ?_
    try cbv
    refine ⟨_, ⟨Int.natCast_nonneg _, hget3⟩, ?_⟩
    cbv
    refine brkI (fun g4 => ?_) (fun g4 => ?_) <;> try cbv
    rotate_left
    · exact hr.symm
    refine brkI (fun g5 => ?_) (fun g5 => ?_) <;> try cbv
    rotate_left
    · exact hr.symm
    refine callI hC c5 ?_
    cbv
    refine ⟨fL _ _ _, ?_⟩
    try cbv
    rw [enl, enl3]
    refine brT (mkLe hF (by ((try simp only [Int.ofNat_eq_natCast] at *); omega))) ?_
    try cbv
    refine brT (mkEq hF rfl) ?_
    try cbv
    exact hr.symm
  · refine callI hC c5 ?_
    cbv
    refine ⟨fL _ _ _, ?_⟩
    try cbv
    rw [enl, enl3]
    refine brT (mkLe hF (by ((try simp only [Int.ofNat_eq_natCast] at *); omega))) ?_
    try cbv
    refine brT (mkEq hF rfl) ?_
    try cbv
    exact hr.symm
end Go.Proofs.Ytngnflfjacappaa
