/- Functions of the program, each with what it returns, run by the evaluator; the conditions stand in the theorems. -/
import Derived.Test.YtngnflfjacappaaLWrite
namespace Go.Proofs.Ytngnflfjacappaa
open Go Go.Proofs.YtngnflfjacappaaW Go.Proofs
set_option linter.unusedVariables false
set_option linter.unusedSimpArgs false
set_option maxRecDepth 100000
set_option maxHeartbeats 8000000
theorem quo64 {F : Prims} (hF : prims = F) (n : Nat) (h : n ≤ 1000000000000) : F.quo .i64 (Int.ofNat n) 64 = Int.ofNat (n / 64) := by
  subst hF
  have e : Int.tdiv (Int.ofNat n) 64 = Int.ofNat (n / 64) := rfl
  show IntKind.i64.wrap (Int.tdiv (Int.ofNat n) 64) = _
  rw [e]
  exact wrap_i64 (by ((try simp only [Int.ofNat_eq_natCast] at *); omega)) (by ((try simp only [Int.ofNat_eq_natCast] at *); omega))
/-- Sixty-four bytes 0, of which the first are written over. -/
theorem lcopyIs {F : Prims} (hF : prims = F) (l : List UInt8) : F.lcopy (bytesL (List.replicate 64 0)) 0 64 (bytesL l) = bytesL (l.take 64 ++ List.replicate (64 - l.length) 0) := by
  subst hF
  show (bytesL (List.replicate 64 0)).take 0 ++ (bytesL l).take 64 ++ (bytesL (List.replicate 64 0)).drop (0 + min (bytesL l).length 64) = _
  have e1 : (bytesL l).length = l.length := by simp [bytesL]
  have e2 : (bytesL l).take 64 = bytesL (l.take 64) := by simp [bytesL, List.map_take]
  have e3 : (bytesL (List.replicate 64 0)).drop (0 + min l.length 64) = bytesL (List.replicate (64 - l.length) 0) := by
    simp only [bytesL, ← List.map_drop, List.drop_replicate]
    congr 2; omega
  rw [e1, e2, e3, List.take_zero, List.nil_append, bytesL_append]
theorem l07Write_ok (d : Dsk) (a : Int) (t : ByteArray) (ht : t.size ≤ 20000) (hm : Dsk.Bd 1048576 d) (h1 : d.secs.length ≤ 700) (h2 : d.cache.length ≤ 400) (ia : I64 a) : CallOK Try.prog 32 [.agg [.y (.sl 1 (d.secs.map rowS)), .y (.sl 2 (d.cache.map Wr.row))], aN a, aS t] ⟨.agg [.own 1 ((wrDisk d a t).secs.map rowS), .own 2 ((wrDisk d a t).cache.map Wr.row), .y (yS ⟨⟨[]⟩⟩), .y (yN (wrCode d a t))], []⟩ := by
  have c2 := sCopy_ok d hm
  rw [ownD] at c2
  obtain ⟨m, hmd⟩ : ∃ m, m = manyOf t := ⟨_, rfl⟩
  have hmm : m ≤ 313 := by rw [hmd, manyOf]; omega
  have hmt : m = (t.size + 63) / 64 := hmd
  obtain ⟨n, hn⟩ : ∃ n, n = d.secs.length := ⟨_, rfl⟩
  obtain ⟨nc, hnc⟩ : ∃ n, n = d.cache.length := ⟨_, rfl⟩
  rw [← hn] at h1
  rw [← hnc] at h2
  have hcode : wrCode d a t = if decide (0 ≤ a) && decide (a ≤ Int.ofNat n - Int.ofNat m) then (if nc + m > 400 then 11 else 0) else 9 := by rw [wrCode, ← hn, ← hnc, ← hmd]
  have hdisk : wrDisk d a t = if wrCode d a t = 0 then ⟨d.secs, d.cache ++ wrsL t a m⟩ else ⟨[], []⟩ := by rw [wrDisk, ← hmd]
  obtain ⟨cd, hcd⟩ : ∃ c, c = wrCode d a t := ⟨_, rfl⟩
  rw [← hcd] at hcode hdisk ⊢
  obtain ⟨f, hf⟩ : ∃ c, c = wrDisk d a t := ⟨_, rfl⟩
  rw [← hf] at hdisk ⊢
  unfold I64 at ia
  obtain ⟨M, hM⟩ := mapEx
  try simp only [hM]
  refine go Try.func32 rfl rfl rfl rfl fun pAdd pSub pMul pQuo pRem pAnd pOr pXor pAndNot pShl pShr pNeg pCompl pConv pLt pLe pEq pSlt pSle pSeq pCat pCatOk pSlen pSsub pSat pIadd pIsub pBnot pBeq pImin pImax pLlen pLsub pLapp pLset pLcopy pLenOk pBytes pRep hF Ca hC r hr => ?_
  cbv
  obtain ⟨sz, hsz⟩ : ∃ x, x = t.size := ⟨_, rfl⟩
  have el : pSlen t = Int.ofNat sz := (slenIs hF t).trans (by rw [hsz]; rfl)
  have ls : pLlen (M rowS d.secs) = Int.ofNat n := (llenIs hF _).trans (by rw [← hM, List.length_map, ← hn]; rfl)
  have lc : pLlen (M Wr.row d.cache) = Int.ofNat nc := (llenIs hF _).trans (by rw [← hM, List.length_map, hnc]; rfl)
  have eq64 : pEq 64 0 = false := mkNe hF (by decide)
  have em : pQuo .i64 (pSub .i64 (pAdd .i64 (Int.ofNat sz) 64) 1) 64 = Int.ofNat m := by
    have e1 : pAdd .i64 (Int.ofNat sz) 64 = Int.ofNat (sz + 64) := (addIs hF (by ((try simp only [Int.ofNat_eq_natCast] at *); omega)) (by ((try simp only [Int.ofNat_eq_natCast] at *); omega))).trans (by ((try simp only [Int.ofNat_eq_natCast] at *); omega))
    have e2 : pSub .i64 (Int.ofNat (sz + 64)) 1 = Int.ofNat (sz + 63) := (subIs hF (by ((try simp only [Int.ofNat_eq_natCast] at *); omega)) (by ((try simp only [Int.ofNat_eq_natCast] at *); omega))).trans (by ((try simp only [Int.ofNat_eq_natCast] at *); omega))
    rw [e1, e2]
    have e3 : pQuo .i64 (Int.ofNat (sz + 63)) 64 = Int.ofNat ((sz + 63) / 64) := quo64 hF (sz + 63) (by omega)
    rw [e3, hmt, hsz]
  try refine brF eq64 ?_
  try cbv
  rw [el, em]
  refine brkI (fun h => ?_) (fun h => ?_) <;> try cbv
  · have h := ltT hF h
    have : (decide (0 ≤ a) && decide (a ≤ Int.ofNat n - Int.ofNat m)) = false := by (first | (simp only [Bool.or_eq_true, Bool.and_eq_true, Bool.not_eq_true', Bool.or_eq_false_iff, Bool.and_eq_false_iff, Bool.not_eq_false', decide_eq_true_eq, decide_eq_false_iff_not, Bool.not_false, Bool.not_true, Bool.and_true, Bool.true_and, Bool.or_false, Bool.false_or, and_true, true_and, Int.ofNat_eq_natCast] at *; omega) | (simp only [Bool.eq_false_iff, ne_eq, Bool.or_eq_true, Bool.and_eq_true, Bool.not_eq_true', decide_eq_true_eq, decide_eq_false_iff_not, Bool.not_false, Bool.not_true, Bool.and_true, Bool.true_and, Bool.or_false, Bool.false_or, and_true, true_and, Int.ofNat_eq_natCast] at *; omega) | (simp only [Bool.or_eq_true, Bool.and_eq_true, Bool.not_eq_true', Bool.or_eq_false_iff, Bool.and_eq_false_iff, Bool.not_eq_false', decide_eq_true_eq, decide_eq_false_iff_not, Bool.not_false, Bool.not_true, Bool.and_true, Bool.true_and, Bool.or_false, Bool.false_or, and_true, true_and, Int.ofNat_eq_natCast] at *; grind) | grind)
    rw [this, if_neg (by decide)] at hcode
    rw [hcode, if_neg (by decide)] at hdisk
    rw [hr, hcode, hdisk]
    simp only [← hM]; rfl
  have ha0 := ltF hF h
  have es : pSub .i64 (Int.ofNat n) (Int.ofNat m) = Int.ofNat n - Int.ofNat m := subIs hF (by ((try simp only [Int.ofNat_eq_natCast] at *); omega)) (by ((try simp only [Int.ofNat_eq_natCast] at *); omega))
  rw [ls, es]
  refine brkI (fun h => ?_) (fun h => ?_) <;> try cbv
  · have h := ltT hF h
    have : (decide (0 ≤ a) && decide (a ≤ Int.ofNat n - Int.ofNat m)) = false := by (first | (simp only [Bool.or_eq_true, Bool.and_eq_true, Bool.not_eq_true', Bool.or_eq_false_iff, Bool.and_eq_false_iff, Bool.not_eq_false', decide_eq_true_eq, decide_eq_false_iff_not, Bool.not_false, Bool.not_true, Bool.and_true, Bool.true_and, Bool.or_false, Bool.false_or, and_true, true_and, Int.ofNat_eq_natCast] at *; omega) | (simp only [Bool.eq_false_iff, ne_eq, Bool.or_eq_true, Bool.and_eq_true, Bool.not_eq_true', decide_eq_true_eq, decide_eq_false_iff_not, Bool.not_false, Bool.not_true, Bool.and_true, Bool.true_and, Bool.or_false, Bool.false_or, and_true, true_and, Int.ofNat_eq_natCast] at *; omega) | (simp only [Bool.or_eq_true, Bool.and_eq_true, Bool.not_eq_true', Bool.or_eq_false_iff, Bool.and_eq_false_iff, Bool.not_eq_false', decide_eq_true_eq, decide_eq_false_iff_not, Bool.not_false, Bool.not_true, Bool.and_true, Bool.true_and, Bool.or_false, Bool.false_or, and_true, true_and, Int.ofNat_eq_natCast] at *; grind) | grind)
    rw [this, if_neg (by decide)] at hcode
    rw [hcode, if_neg (by decide)] at hdisk
    rw [hr, hcode, hdisk]
    simp only [← hM]; rfl
  have ha1 := ltF hF h
  have : (decide (0 ≤ a) && decide (a ≤ Int.ofNat n - Int.ofNat m)) = true := by (first | (simp only [Bool.or_eq_true, Bool.and_eq_true, Bool.not_eq_true', Bool.or_eq_false_iff, Bool.and_eq_false_iff, Bool.not_eq_false', decide_eq_true_eq, decide_eq_false_iff_not, Bool.not_false, Bool.not_true, Bool.and_true, Bool.true_and, Bool.or_false, Bool.false_or, and_true, true_and, Int.ofNat_eq_natCast] at *; omega) | (simp only [Bool.eq_false_iff, ne_eq, Bool.or_eq_true, Bool.and_eq_true, Bool.not_eq_true', decide_eq_true_eq, decide_eq_false_iff_not, Bool.not_false, Bool.not_true, Bool.and_true, Bool.true_and, Bool.or_false, Bool.false_or, and_true, true_and, Int.ofNat_eq_natCast] at *; omega) | (simp only [Bool.or_eq_true, Bool.and_eq_true, Bool.not_eq_true', Bool.or_eq_false_iff, Bool.and_eq_false_iff, Bool.not_eq_false', decide_eq_true_eq, decide_eq_false_iff_not, Bool.not_false, Bool.not_true, Bool.and_true, Bool.true_and, Bool.or_false, Bool.false_or, and_true, true_and, Int.ofNat_eq_natCast] at *; grind) | grind)
  rw [this, if_pos rfl] at hcode
  have ea : pAdd .i64 (Int.ofNat nc) (Int.ofNat m) = Int.ofNat (nc + m) := addNIs hF (by omega)
  obtain ⟨ncm, hncm⟩ : ∃ x, x = nc + m := ⟨_, rfl⟩
  rw [← hncm] at ea hcode
  rw [lc, ea]
  refine brkI (fun h => ?_) (fun h => ?_) <;> try cbv
  · have h := ltT hF h
    rw [if_pos (by ((try simp only [Int.ofNat_eq_natCast] at *); omega))] at hcode
    rw [hcode, if_neg (by decide)] at hdisk
    rw [hr, hcode, hdisk]
    simp only [← hM]; rfl
  have h3 := ltF hF h
  rw [if_neg (by ((try simp only [Int.ofNat_eq_natCast] at *); omega))] at hcode
  rw [hcode, if_pos rfl] at hdisk
  refine callI hC (by have hh := c2; (try simp only [hM] at hh); exact hh) ?_
  cbv
  refine loop_u (α := Nat × List (List Y)) (fun z st => (st.n 9 (Int.ofNat z.1)).ob 8002 (.ar 2 z.2)) (fun z => z.1 ≤ m ∧ z.2 = (d.cache ++ wrsL t a z.1).map Wr.row) (fun z => m - z.1) (0, M Wr.row d.cache) rfl ⟨by omega, by dsimp only; rw [← hM, show wrsL t a 0 = [] from rfl, List.append_nil]⟩ (fun K' hK I z hi ih => ?_)
  obtain ⟨i, zs⟩ := z
  obtain ⟨hi, hz⟩ := hi
  dsimp only at hi hz
  have hzl : zs.length = nc + i := by rw [hz, List.length_map, List.length_append, wrsL_len, hnc]
  cbv
  refine brkI (fun h0 => ?_) (fun h0 => ?_) <;> try cbv
  · have h0 := ltT hF h0
    have him : i < m := by ((try simp only [Int.ofNat_eq_natCast] at *); omega)
    refine brT (by first | rfl | exact mkLe hF (by decide)) ?_
    refine brT (by first | rfl | exact mkLe hF (by decide)) ?_
    refine brT (by first | rfl | exact lenOkIs hF (by decide)) ?_
    try cbv
    have e64 : pMul .i64 (Int.ofNat i) 64 = Int.ofNat (64 * i) := (mulIs hF (by ((try simp only [Int.ofNat_eq_natCast] at *); omega)) (by ((try simp only [Int.ofNat_eq_natCast] at *); omega))).trans (by ((try simp only [Int.ofNat_eq_natCast] at *); omega))
    obtain ⟨i64, hi64⟩ : ∃ x, x = 64 * i := ⟨_, rfl⟩
    rw [← hi64] at e64
    rw [e64, el]
    refine brT (zeroLe hF i64) ?_
    refine brT (mkLe hF (by ((try simp only [Int.ofNat_eq_natCast] at *); omega))) ?_
    obtain ⟨pc, hpc⟩ : ∃ pc, pc = piece t i := ⟨_, rfl⟩
    have er : pRep 64 [Y.sc (Value.int IntKind.u8 0)] = bytesL (List.replicate 64 0) := by
      have : pRep 64 [Y.sc (Value.int IntKind.u8 0)] = List.replicate 64 [Y.sc (Value.int IntKind.u8 0)] := repIs hF 64 _
      rw [this]; simp [bytesL]
    have ell : pLlen (bytesL (List.replicate 64 0)) = 64 := by
      have : pLlen (bytesL (List.replicate 64 0)) = Int.ofNat (bytesL (List.replicate 64 0)).length := llenIs hF _
      rw [this]; simp [bytesL]
    have esub : pBytes (pSsub t (Int.ofNat i64) (Int.ofNat sz)) = bytesL (restL t i) := by
      have e1 : pSsub t (Int.ofNat i64) (Int.ofNat sz) = ⟨⟨(t.data.toList.drop i64).take (sz - i64)⟩⟩ := ssubIs hF t i64 sz
      have e2 : ∀ s, pBytes s = bytesL s.data.toList := fun s => bytesIs hF s
      rw [e1, e2]
      show bytesL ((t.data.toList.drop i64).take (sz - i64)) = _
      rw [restL, ← hi64, List.take_of_length_le (by rw [List.length_drop]; show t.size - i64 ≤ _; omega)]
    have ecopy : pLcopy (bytesL (List.replicate 64 0)) 0 64 (bytesL (restL t i)) = bytesL ((restL t i).take 64 ++ List.replicate (64 - (restL t i).length) 0) := lcopyIs hF _
    rw [er, ell, esub, ecopy]
    refine ⟨pc, ⟨by rw [hpc]; rfl⟩, ?_⟩
    cbv
    have ea : pAdd .i64 a (Int.ofNat i) = a + Int.ofNat i := addIs hF (by ((try simp only [Int.ofNat_eq_natCast] at *); omega)) (by ((try simp only [Int.ofNat_eq_natCast] at *); omega))
    obtain ⟨ai, hai⟩ : ∃ x, x = a + Int.ofNat i := ⟨_, rfl⟩
    rw [ea, ← hai]
    have g : pLenOk (pIadd (pLlen zs) (pLlen [[yN ai, yS pc]])) = true := by
      have e1 : pLlen zs = Int.ofNat (nc + i) := hzl ▸ llenIs hF zs
      have e2 : pLlen [[yN ai, yS pc]] = Int.ofNat 1 := llenIs hF _
      have : prims.iadd (Int.ofNat (nc + i)) (Int.ofNat 1) = Int.ofNat (nc + i + 1) := rfl
      rw [e1, e2]; rw [hF] at this
      have e5 : pIadd (Int.ofNat (nc + i)) (Int.ofNat 1) = Int.ofNat (nc + i + 1) := this
      rw [e5]
      exact lenOkIs hF (by ((try simp only [Int.ofNat_eq_natCast] at *); omega))
    refine brT g ?_
    try cbv
    have e1 : pAdd .i64 (Int.ofNat i) 1 = Int.ofNat (i + 1) := add1Is hF (by ((try simp only [Int.ofNat_eq_natCast] at *); omega))
    have e2 : pLapp zs [[yN ai, yS pc]] = (d.cache ++ wrsL t a (i + 1)).map Wr.row := by
      have : pLapp zs [[yN ai, yS pc]] = zs ++ [[yN ai, yS pc]] := lappIs hF _ _
      rw [this, hz, wrsL_succ, ← List.append_assoc, List.map_append (l₁ := d.cache ++ wrsL t a i), hai, hpc]; rfl
    conv => arg 1; cbv
    rw [e1, e2]
    exact ih (i + 1, _) _ ⟨by dsimp only; ((try simp only [Int.ofNat_eq_natCast] at *); omega), rfl⟩ (by dsimp only; ((try simp only [Int.ofNat_eq_natCast] at *); omega)) rfl
  · have h0 := ltF hF h0
    have him : i = m := by ((try simp only [Int.ofNat_eq_natCast] at *); omega)
    refine hK _ _ ?_
    cbv
    rw [hr, hcode, hdisk, hz, him]
    simp only [← hM]
theorem sDiskWrite_ok (d : Dsk) (a : Int) (t : ByteArray) (hm : Dsk.Bd 1048576 d) (ia : I64 a) : CallOK Try.prog 7 [.agg [.y (.sl 1 (d.secs.map rowS)), .y (.sl 2 (d.cache.map Wr.row))], aN a, aS t] ⟨.agg [.own 1 ((dwDisk d a t).secs.map rowS), .own 2 ((dwDisk d a t).cache.map Wr.row), .y (yS ⟨⟨[]⟩⟩), .y (yN (dwCode d a t))], []⟩ := by
  have c1 := sDiskRight_ok d (Dsk.big hm)
  have c3 := fun (h : tooLong t = false) (hd : diskRight d = true) => l07Write_ok d a t (by have := of_decide_eq_false h; omega) hm (diskRight_lens hd).1 (diskRight_lens hd).2 ia
  have hcode : dwCode d a t = if tooLong t then 2 else if diskRight d then wrCode d a t else 1 := rfl
  have hdisk : dwDisk d a t = if tooLong t then ⟨[], []⟩ else if diskRight d then wrDisk d a t else ⟨[], []⟩ := rfl
  obtain ⟨cd, hcd⟩ : ∃ c, c = dwCode d a t := ⟨_, rfl⟩
  obtain ⟨f, hf⟩ : ∃ c, c = dwDisk d a t := ⟨_, rfl⟩
  rw [← hcd] at hcode
  rw [← hf] at hdisk
  rw [← hcd, ← hf]
  obtain ⟨wc, hwc⟩ : ∃ c, c = wrCode d a t := ⟨_, rfl⟩
  obtain ⟨wd, hwdd⟩ : ∃ c, c = wrDisk d a t := ⟨_, rfl⟩
  rw [← hwc, ← hwdd] at c3
  rw [← hwc] at hcode
  rw [← hwdd] at hdisk
  obtain ⟨b, hb⟩ : ∃ b, b = diskRight d := ⟨_, rfl⟩
  rw [← hb] at c1 c3 hcode hdisk
  obtain ⟨M, hM⟩ := mapEx
  try simp only [hM]
  refine go Try.func7 rfl rfl rfl rfl fun pAdd pSub pMul pQuo pRem pAnd pOr pXor pAndNot pShl pShr pNeg pCompl pConv pLt pLe pEq pSlt pSle pSeq pCat pCatOk pSlen pSsub pSat pIadd pIsub pBnot pBeq pImin pImax pLlen pLsub pLapp pLset pLcopy pLenOk pBytes pRep hF Ca hC r hr => ?_
  cbv
  have el : pSlen t = Int.ofNat t.size := slenIs hF t
  refine brkI (fun h => ?_) (fun h => ?_) <;> try cbv
  · have h := ltT hF h
    have h : tooLong t = true := decide_eq_true (by rw [el] at h; ((try simp only [Int.ofNat_eq_natCast] at *); omega))
    rw [h, if_pos rfl] at hcode hdisk
    rw [hr, hcode, hdisk]
    simp only [← hM]; rfl
  · have h := ltF hF h
    have h : tooLong t = false := decide_eq_false (by rw [el] at h; ((try simp only [Int.ofNat_eq_natCast] at *); omega))
    rw [h, if_neg (by decide)] at hcode hdisk
    refine callB hC (by have hh := c1; (try simp only [hM] at hh); exact hh) (fun h1 => ?_) (fun h1 => ?_) <;> try cbv
    · rw [h1, if_pos rfl] at hcode hdisk
      refine callI hC (by have hh := c3 h h1; (try simp only [hM] at hh); exact hh) ?_
      cbv
      rw [hr, hcode, hdisk]
    · rw [h1, if_neg (by decide)] at hcode hdisk
      rw [hr, hcode, hdisk]
      simp only [← hM]; rfl
theorem dwDisk_bd {d : Dsk} (a : Int) (t : ByteArray) (hm : Dsk.Bd 1048576 d) : Dsk.Bd 1048576 (dwDisk d a t) := by
  have hz : Dsk.Bd 1048576 ⟨[], []⟩ := ⟨⟨by decide, by simp⟩, ⟨by decide, by simp⟩, trivial⟩
  rw [dwDisk]
  split
  · exact hz
  · split
    · rw [wrDisk]
      split
      · rename_i h
        refine ⟨hm.1, ⟨?_, fun w hw => ?_⟩, trivial⟩
        · rw [wrCode] at h
          show (d.cache ++ wrsL t a (manyOf t)).length ≤ _
          rw [List.length_append, wrsL_len]
          split at h
          · split at h
            · cases h
            · omega
          · cases h
        · rcases List.mem_append.1 hw with hw | hw
          · exact hm.2.1.2 w hw
          · obtain ⟨i, _, rfl⟩ := List.mem_map.1 hw
            exact ⟨by show (piece t i).size ≤ _; rw [piece_size]; omega, trivial⟩
      · exact hz
    · exact hz
end Go.Proofs.Ytngnflfjacappaa
