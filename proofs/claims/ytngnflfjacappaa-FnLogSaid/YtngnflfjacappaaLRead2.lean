/- Functions of the program, each with what it returns, run by the evaluator; the conditions stand in the theorems. -/
import Derived.Test.YtngnflfjacappaaLRead
import Derived.Test.YtngnflfjacappaaLMarkD
namespace Go.Proofs.Ytngnflfjacappaa
open Go Go.Proofs.YtngnflfjacappaaW Go.Proofs
set_option linter.unusedVariables false
set_option linter.unusedSimpArgs false
set_option maxRecDepth 100000
set_option maxHeartbeats 8000000
def rdOk (d : Dsk) (a m : Int) : Bool := decide (0 ≤ m) && decide (m ≤ 300) && decide (0 ≤ a) && decide (a ≤ Int.ofNat d.secs.length - m)
def rdText (d : Dsk) (a m : Int) : ByteArray := if diskRight d && rdOk d a m then joinE (secsAt d a.toNat m.toNat) else ⟨⟨[]⟩⟩
def rdCode (d : Dsk) (a m : Int) : Int := if diskRight d then (if rdOk d a m then 0 else 9) else 1
/-- What of a disk is told back: no sectors, a text, a code. -/
abbrev outD0 (s : ByteArray) (c : Int) : Res := ⟨.agg [.own 1 [], .own 2 [], .y (yS s), .y (yN c)], []⟩
theorem lsubIs {F : Prims} (hF : prims = F) {H : List ByteArray} {zs : List (List Y)} (hz : zs = H.map rowS) (a m : Nat) : F.lsub zs (Int.ofNat a) (Int.ofNat m) = ((H.drop a).take m).map rowS := by
  subst hF hz
  show ((H.map rowS).drop a).take m = _
  rw [List.map_take, List.map_drop]
theorem sDiskRead_ok (d : Dsk) (a m : Int) (hm : Dsk.Bd 1048576 d) (ia : I64 a) (im : I64 m) : CallOK Try.prog 13 [.agg [.y (.sl 1 (d.secs.map rowS)), .y (.sl 2 (d.cache.map Wr.row))], aN a, aN m] (outD0 (rdText d a m) (rdCode d a m)) := by
  have c1 := sDiskRight_ok d (Dsk.big hm)
  have c2 := fun (h : diskRight d = true) (a m : Nat) ha hm => l07Text_ok d a m h ha hm
  obtain ⟨b, hb⟩ : ∃ b, b = diskRight d := ⟨_, rfl⟩
  obtain ⟨T, hT⟩ : ∃ x, x = rdText d a m := ⟨_, rfl⟩
  obtain ⟨C, hCd⟩ : ∃ x, x = rdCode d a m := ⟨_, rfl⟩
  rw [← hT, ← hCd]
  rw [rdText, ← hb] at hT
  rw [rdCode, ← hb] at hCd
  rw [← hb] at c1 c2
  have hsl := hm.1.1
  obtain ⟨n, hn⟩ : ∃ n, n = d.secs.length := ⟨_, rfl⟩
  rw [← hn] at hsl
  have hok : rdOk d a m = (decide (0 ≤ m) && decide (m ≤ 300) && decide (0 ≤ a) && decide (a ≤ Int.ofNat n - m)) := by rw [rdOk, hn]
  obtain ⟨ok, hok'⟩ : ∃ x, x = rdOk d a m := ⟨_, rfl⟩
  rw [← hok'] at hok hT hCd
  unfold I64 at ia im
  obtain ⟨M, hM⟩ := mapEx
  try simp only [hM]
  refine go Try.func13 rfl rfl rfl rfl fun pAdd pSub pMul pQuo pRem pAnd pOr pXor pAndNot pShl pShr pNeg pCompl pConv pLt pLe pEq pSlt pSle pSeq pCat pCatOk pSlen pSsub pSat pIadd pIsub pBnot pBeq pImin pImax pLlen pLsub pLapp pLset pLcopy pLenOk pBytes pRep hF Ca hC r hr => ?_
  cbv
  have ls : pLlen (M rowS d.secs) = Int.ofNat n := (llenIs hF _).trans (by rw [← hM, List.length_map, ← hn]; rfl)
  refine callB hC (by have hh := c1; (try simp only [hM] at hh); exact hh) (fun hbt => ?_) (fun hbt => ?_) <;> try cbv
  · obtain ⟨df, hdf⟩ : ∃ x, x = pSub .i64 (Int.ofNat n) m := ⟨_, rfl⟩
    have e1 : 0 ≤ m → m ≤ 300 → df = Int.ofNat n - m := fun h0 h1 => hdf.trans (subIs hF (by ((try simp only [Int.ofNat_eq_natCast] at *); omega)) (by ((try simp only [Int.ofNat_eq_natCast] at *); omega)))
    repeat' (first
      | (refine brT (by assumption) ?_; try cbv)
      | (refine brF (by assumption) ?_; try cbv)
      | (rw [ls, ← hdf]; refine brkI (fun h => ?_) (fun h => ?_) <;> try cbv)
      | (refine brkI (fun h => ?_) (fun h => ?_) <;> try cbv))
    all_goals first
      | (have hno : ok = false := by
           rw [hok]
           have lD : ∀ a b, pLt a b = decide (a < b) := ltD hF
           have eD : ∀ a b, pLe a b = decide (a ≤ b) := leD hF
           have qD : ∀ a b, pEq a b = decide (a = b) := eqD hF
           have sD : ∀ a b, pSeq a b = decide (a = b) := seqD hF
           simp only [lD, eD, qD, decide_eq_true_eq, decide_eq_false_iff_not] at *
           clear c1 c2 hC hr hT hCd hb
           (first | (simp only [Bool.or_eq_true, Bool.and_eq_true, Bool.not_eq_true', Bool.or_eq_false_iff, Bool.and_eq_false_iff, Bool.not_eq_false', decide_eq_true_eq, decide_eq_false_iff_not, Bool.not_false, Bool.not_true, Bool.and_true, Bool.true_and, Bool.or_false, Bool.false_or, and_true, true_and, Int.ofNat_eq_natCast] at *; omega) | (simp only [Bool.eq_false_iff, ne_eq, Bool.or_eq_true, Bool.and_eq_true, Bool.not_eq_true', decide_eq_true_eq, decide_eq_false_iff_not, Bool.not_false, Bool.not_true, Bool.and_true, Bool.true_and, Bool.or_false, Bool.false_or, and_true, true_and, Int.ofNat_eq_natCast] at *; omega) | (simp only [Bool.or_eq_true, Bool.and_eq_true, Bool.not_eq_true', Bool.or_eq_false_iff, Bool.and_eq_false_iff, Bool.not_eq_false', decide_eq_true_eq, decide_eq_false_iff_not, Bool.not_false, Bool.not_true, Bool.and_true, Bool.true_and, Bool.or_false, Bool.false_or, and_true, true_and, Int.ofNat_eq_natCast] at *; grind) | grind)
         rw [hbt, hno] at hT hCd
         rw [hr, hT, hCd]; rfl)
      | skip
    have hyes : ok = true := by
      rw [hok]
      have lD : ∀ a b, pLt a b = decide (a < b) := ltD hF
      have eD : ∀ a b, pLe a b = decide (a ≤ b) := leD hF
      have qD : ∀ a b, pEq a b = decide (a = b) := eqD hF
      have sD : ∀ a b, pSeq a b = decide (a = b) := seqD hF
      simp only [lD, eD, qD, decide_eq_true_eq, decide_eq_false_iff_not] at *
      clear c1 c2 hC hr hT hCd hb
      (first | (simp only [Bool.or_eq_true, Bool.and_eq_true, Bool.not_eq_true', Bool.or_eq_false_iff, Bool.and_eq_false_iff, Bool.not_eq_false', decide_eq_true_eq, decide_eq_false_iff_not, Bool.not_false, Bool.not_true, Bool.and_true, Bool.true_and, Bool.or_false, Bool.false_or, and_true, true_and, Int.ofNat_eq_natCast] at *; omega) | (simp only [Bool.eq_false_iff, ne_eq, Bool.or_eq_true, Bool.and_eq_true, Bool.not_eq_true', decide_eq_true_eq, decide_eq_false_iff_not, Bool.not_false, Bool.not_true, Bool.and_true, Bool.true_and, Bool.or_false, Bool.false_or, and_true, true_and, Int.ofNat_eq_natCast] at *; omega) | (simp only [Bool.or_eq_true, Bool.and_eq_true, Bool.not_eq_true', Bool.or_eq_false_iff, Bool.and_eq_false_iff, Bool.not_eq_false', decide_eq_true_eq, decide_eq_false_iff_not, Bool.not_false, Bool.not_true, Bool.and_true, Bool.true_and, Bool.or_false, Bool.false_or, and_true, true_and, Int.ofNat_eq_natCast] at *; grind) | grind)
    rw [hyes] at hok
    have hok := hok.symm
    simp only [Bool.and_eq_true, decide_eq_true_eq] at hok
    obtain ⟨a', rfl⟩ : ∃ a' : Nat, a = Int.ofNat a' := ⟨a.toNat, by ((try simp only [Int.ofNat_eq_natCast] at *); omega)⟩
    obtain ⟨m', rfl⟩ : ∃ a' : Nat, m = Int.ofNat a' := ⟨m.toNat, by ((try simp only [Int.ofNat_eq_natCast] at *); omega)⟩
    have c3 := c2 hbt a' m' (by ((try simp only [Int.ofNat_eq_natCast] at *); omega)) (by ((try simp only [Int.ofNat_eq_natCast] at *); omega))
    rw [hbt, hyes, Bool.and_true, if_pos rfl, show (Int.ofNat a').toNat = a' from rfl, show (Int.ofNat m').toNat = m' from rfl] at hT
    rw [hbt, hyes, if_pos rfl, if_pos rfl] at hCd
    rw [← hT] at c3
    refine callS hC (by have hh := c3; (try simp only [hM] at hh); exact hh) (fun s hs => ?_)
    cbv
    rw [hr, hs, hCd]
  · rw [hbt] at hT hCd
    rw [hr, hT, hCd]; rfl
theorem lies_ok (d : Dsk) (a m : Int) (hm : d.secs.length ≤ 1048576) : CallOK Try.prog 34 [.io [.y (.sl 1 (d.secs.map rowS)), .y (.sl 2 (d.cache.map Wr.row))], aN a, aN m] ⟨.c (.y (yB (decide (0 ≤ a) && decide (a ≤ prims.sub .i64 (Int.ofNat d.secs.length) m)))), [[.y (.sl 1 (d.secs.map rowS)), .y (.sl 2 (d.cache.map Wr.row))]]⟩ := by
  obtain ⟨n, hn⟩ : ∃ n, n = d.secs.length := ⟨_, rfl⟩
  rw [← hn]
  obtain ⟨df, hdf⟩ : ∃ x, x = prims.sub .i64 (Int.ofNat n) m := ⟨_, rfl⟩
  rw [← hdf]
  have cw := within_ok a 0 df
  obtain ⟨q, hq⟩ : ∃ x, x = (decide (0 ≤ a) && decide (a ≤ df)) := ⟨_, rfl⟩
  rw [← hq] at cw ⊢
  obtain ⟨M, hM⟩ := mapEx
  try simp only [hM]
  refine go Try.func34 rfl rfl rfl rfl fun pAdd pSub pMul pQuo pRem pAnd pOr pXor pAndNot pShl pShr pNeg pCompl pConv pLt pLe pEq pSlt pSle pSeq pCat pCatOk pSlen pSsub pSat pIadd pIsub pBnot pBeq pImin pImax pLlen pLsub pLapp pLset pLcopy pLenOk pBytes pRep hF Ca hC r hr => ?_
  cbv
  have ls : pLlen (M rowS d.secs) = Int.ofNat n := (llenIs hF _).trans (by rw [← hM, List.length_map, ← hn]; rfl)
  rw [ls]
  have e1 : pSub .i64 (Int.ofNat n) m = df := by rw [hdf, hF]
  rw [e1]
  refine callB hC cw (fun h => ?_) (fun h => ?_) <;> try cbv
  all_goals rw [hr, h]
theorem iDiskRead_ok (d : Dsk) (a m : Int) (hm : Dsk.Bd 1048576 d) (ia : I64 a) (im : I64 m) : CallOK Try.prog 8 [.agg [.y (.sl 1 (d.secs.map rowS)), .y (.sl 2 (d.cache.map Wr.row))], aN a, aN m] (outD0 (rdText d a m) (rdCode d a m)) := by
  have c1 := iDiskRight_ok d (Dsk.big hm)
  have c2 := fun (h : diskRight d = true) (a m : Nat) => joinE_ok (secsAt d a m) (by have := secsAt_len h (a := a) (m := m); omega) (by have := secsAt_cat h (a := a) (m := m); omega)
  have c4 := fun h => has_ok d h
  have cl := lies_ok d a m hm.1.1
  have cw := within_ok m 0 300
  obtain ⟨b, hb⟩ : ∃ b, b = diskRight d := ⟨_, rfl⟩
  obtain ⟨T, hT⟩ : ∃ x, x = rdText d a m := ⟨_, rfl⟩
  obtain ⟨C, hCd⟩ : ∃ x, x = rdCode d a m := ⟨_, rfl⟩
  rw [← hT, ← hCd]
  rw [rdText, ← hb] at hT
  rw [rdCode, ← hb] at hCd
  rw [← hb] at c1 c2 c4
  have hsl := hm.1.1
  have hHl : (putsTo d (fun _ => true) d.cache.length).length = d.secs.length := putsTo_len ..
  have hsa : ∀ a m, secsAt d a m = ((putsTo d (fun _ => true) d.cache.length).drop a).take m := fun _ _ => rfl
  obtain ⟨H, hH⟩ : ∃ H, H = putsTo d (fun _ => true) d.cache.length := ⟨_, rfl⟩
  rw [← hH] at c4 hHl hsa
  obtain ⟨n, hn⟩ : ∃ n, n = d.secs.length := ⟨_, rfl⟩
  rw [← hn] at hsl hHl cl
  have hok : rdOk d a m = (decide (0 ≤ m) && decide (m ≤ 300) && decide (0 ≤ a) && decide (a ≤ Int.ofNat n - m)) := by rw [rdOk, hn]
  obtain ⟨ok, hok'⟩ : ∃ x, x = rdOk d a m := ⟨_, rfl⟩
  rw [← hok'] at hok hT hCd
  unfold I64 at ia im
  obtain ⟨df, hdf⟩ : ∃ x, x = prims.sub .i64 (Int.ofNat n) m := ⟨_, rfl⟩
  rw [← hdf] at cl
  have e1 : 0 ≤ m → m ≤ 300 → df = Int.ofNat n - m := fun h0 h1 => hdf.trans (wrap_i64 (by ((try simp only [Int.ofNat_eq_natCast] at *); omega)) (by ((try simp only [Int.ofNat_eq_natCast] at *); omega)))
  obtain ⟨lb, hlb⟩ : ∃ x, x = (decide (0 ≤ a) && decide (a ≤ df)) := ⟨_, rfl⟩
  rw [← hlb] at cl
  obtain ⟨M, hM⟩ := mapEx
  try simp only [hM]
  refine go Try.func8 rfl rfl rfl rfl fun pAdd pSub pMul pQuo pRem pAnd pOr pXor pAndNot pShl pShr pNeg pCompl pConv pLt pLe pEq pSlt pSle pSeq pCat pCatOk pSlen pSsub pSat pIadd pIsub pBnot pBeq pImin pImax pLlen pLsub pLapp pLset pLcopy pLenOk pBytes pRep hF Ca hC r hr => ?_
  cbv
  refine callB hC (by have hh := c1; (try simp only [hM] at hh); exact hh) (fun h => ?_) (fun h => ?_) <;> try cbv
  · refine callB hC cw (fun hw => ?_) (fun hw => ?_) <;> try cbv
    · refine callI hC (by have hh := cl; (try simp only [hM] at hh); exact hh) ?_
      cbv
      cases lb with
      | false =>
        cbv
        have hno : ok = false := by
          rw [hok]
          clear c1 c2 c4 cl hC hr hT hCd hb
          have e1 := e1 (by (first | (simp only [Bool.or_eq_true, Bool.and_eq_true, Bool.not_eq_true', Bool.or_eq_false_iff, Bool.and_eq_false_iff, Bool.not_eq_false', decide_eq_true_eq, decide_eq_false_iff_not, Bool.not_false, Bool.not_true, Bool.and_true, Bool.true_and, Bool.or_false, Bool.false_or, and_true, true_and, Int.ofNat_eq_natCast] at *; omega) | (simp only [Bool.eq_false_iff, ne_eq, Bool.or_eq_true, Bool.and_eq_true, Bool.not_eq_true', decide_eq_true_eq, decide_eq_false_iff_not, Bool.not_false, Bool.not_true, Bool.and_true, Bool.true_and, Bool.or_false, Bool.false_or, and_true, true_and, Int.ofNat_eq_natCast] at *; omega) | (simp only [Bool.or_eq_true, Bool.and_eq_true, Bool.not_eq_true', Bool.or_eq_false_iff, Bool.and_eq_false_iff, Bool.not_eq_false', decide_eq_true_eq, decide_eq_false_iff_not, Bool.not_false, Bool.not_true, Bool.and_true, Bool.true_and, Bool.or_false, Bool.false_or, and_true, true_and, Int.ofNat_eq_natCast] at *; grind) | grind)) (by (first | (simp only [Bool.or_eq_true, Bool.and_eq_true, Bool.not_eq_true', Bool.or_eq_false_iff, Bool.and_eq_false_iff, Bool.not_eq_false', decide_eq_true_eq, decide_eq_false_iff_not, Bool.not_false, Bool.not_true, Bool.and_true, Bool.true_and, Bool.or_false, Bool.false_or, and_true, true_and, Int.ofNat_eq_natCast] at *; omega) | (simp only [Bool.eq_false_iff, ne_eq, Bool.or_eq_true, Bool.and_eq_true, Bool.not_eq_true', decide_eq_true_eq, decide_eq_false_iff_not, Bool.not_false, Bool.not_true, Bool.and_true, Bool.true_and, Bool.or_false, Bool.false_or, and_true, true_and, Int.ofNat_eq_natCast] at *; omega) | (simp only [Bool.or_eq_true, Bool.and_eq_true, Bool.not_eq_true', Bool.or_eq_false_iff, Bool.and_eq_false_iff, Bool.not_eq_false', decide_eq_true_eq, decide_eq_false_iff_not, Bool.not_false, Bool.not_true, Bool.and_true, Bool.true_and, Bool.or_false, Bool.false_or, and_true, true_and, Int.ofNat_eq_natCast] at *; grind) | grind))
          rw [e1] at hlb
          have hlb := hlb.symm
          (first | (simp only [Bool.or_eq_true, Bool.and_eq_true, Bool.not_eq_true', Bool.or_eq_false_iff, Bool.and_eq_false_iff, Bool.not_eq_false', decide_eq_true_eq, decide_eq_false_iff_not, Bool.not_false, Bool.not_true, Bool.and_true, Bool.true_and, Bool.or_false, Bool.false_or, and_true, true_and, Int.ofNat_eq_natCast] at *; omega) | (simp only [Bool.eq_false_iff, ne_eq, Bool.or_eq_true, Bool.and_eq_true, Bool.not_eq_true', decide_eq_true_eq, decide_eq_false_iff_not, Bool.not_false, Bool.not_true, Bool.and_true, Bool.true_and, Bool.or_false, Bool.false_or, and_true, true_and, Int.ofNat_eq_natCast] at *; omega) | (simp only [Bool.or_eq_true, Bool.and_eq_true, Bool.not_eq_true', Bool.or_eq_false_iff, Bool.and_eq_false_iff, Bool.not_eq_false', decide_eq_true_eq, decide_eq_false_iff_not, Bool.not_false, Bool.not_true, Bool.and_true, Bool.true_and, Bool.or_false, Bool.false_or, and_true, true_and, Int.ofNat_eq_natCast] at *; grind) | grind)
        rw [h, hno] at hT hCd
        rw [hr, hT, hCd]; rfl
      | true =>
        cbv
        have hyes : ok = true := by
          rw [hok]
          clear c1 c2 c4 cl hC hr hT hCd hb
          have e1 := e1 (by (first | (simp only [Bool.or_eq_true, Bool.and_eq_true, Bool.not_eq_true', Bool.or_eq_false_iff, Bool.and_eq_false_iff, Bool.not_eq_false', decide_eq_true_eq, decide_eq_false_iff_not, Bool.not_false, Bool.not_true, Bool.and_true, Bool.true_and, Bool.or_false, Bool.false_or, and_true, true_and, Int.ofNat_eq_natCast] at *; omega) | (simp only [Bool.eq_false_iff, ne_eq, Bool.or_eq_true, Bool.and_eq_true, Bool.not_eq_true', decide_eq_true_eq, decide_eq_false_iff_not, Bool.not_false, Bool.not_true, Bool.and_true, Bool.true_and, Bool.or_false, Bool.false_or, and_true, true_and, Int.ofNat_eq_natCast] at *; omega) | (simp only [Bool.or_eq_true, Bool.and_eq_true, Bool.not_eq_true', Bool.or_eq_false_iff, Bool.and_eq_false_iff, Bool.not_eq_false', decide_eq_true_eq, decide_eq_false_iff_not, Bool.not_false, Bool.not_true, Bool.and_true, Bool.true_and, Bool.or_false, Bool.false_or, and_true, true_and, Int.ofNat_eq_natCast] at *; grind) | grind)) (by (first | (simp only [Bool.or_eq_true, Bool.and_eq_true, Bool.not_eq_true', Bool.or_eq_false_iff, Bool.and_eq_false_iff, Bool.not_eq_false', decide_eq_true_eq, decide_eq_false_iff_not, Bool.not_false, Bool.not_true, Bool.and_true, Bool.true_and, Bool.or_false, Bool.false_or, and_true, true_and, Int.ofNat_eq_natCast] at *; omega) | (simp only [Bool.eq_false_iff, ne_eq, Bool.or_eq_true, Bool.and_eq_true, Bool.not_eq_true', decide_eq_true_eq, decide_eq_false_iff_not, Bool.not_false, Bool.not_true, Bool.and_true, Bool.true_and, Bool.or_false, Bool.false_or, and_true, true_and, Int.ofNat_eq_natCast] at *; omega) | (simp only [Bool.or_eq_true, Bool.and_eq_true, Bool.not_eq_true', Bool.or_eq_false_iff, Bool.and_eq_false_iff, Bool.not_eq_false', decide_eq_true_eq, decide_eq_false_iff_not, Bool.not_false, Bool.not_true, Bool.and_true, Bool.true_and, Bool.or_false, Bool.false_or, and_true, true_and, Int.ofNat_eq_natCast] at *; grind) | grind))
          rw [e1] at hlb
          have hlb := hlb.symm
          (first | (simp only [Bool.or_eq_true, Bool.and_eq_true, Bool.not_eq_true', Bool.or_eq_false_iff, Bool.and_eq_false_iff, Bool.not_eq_false', decide_eq_true_eq, decide_eq_false_iff_not, Bool.not_false, Bool.not_true, Bool.and_true, Bool.true_and, Bool.or_false, Bool.false_or, and_true, true_and, Int.ofNat_eq_natCast] at *; omega) | (simp only [Bool.eq_false_iff, ne_eq, Bool.or_eq_true, Bool.and_eq_true, Bool.not_eq_true', decide_eq_true_eq, decide_eq_false_iff_not, Bool.not_false, Bool.not_true, Bool.and_true, Bool.true_and, Bool.or_false, Bool.false_or, and_true, true_and, Int.ofNat_eq_natCast] at *; omega) | (simp only [Bool.or_eq_true, Bool.and_eq_true, Bool.not_eq_true', Bool.or_eq_false_iff, Bool.and_eq_false_iff, Bool.not_eq_false', decide_eq_true_eq, decide_eq_false_iff_not, Bool.not_false, Bool.not_true, Bool.and_true, Bool.true_and, Bool.or_false, Bool.false_or, and_true, true_and, Int.ofNat_eq_natCast] at *; grind) | grind)
        rw [hyes] at hok
        have hok := hok.symm
        simp only [Bool.and_eq_true, decide_eq_true_eq] at hok
        obtain ⟨a', rfl⟩ : ∃ a' : Nat, a = Int.ofNat a' := ⟨a.toNat, by ((try simp only [Int.ofNat_eq_natCast] at *); omega)⟩
        obtain ⟨m', rfl⟩ : ∃ a' : Nat, m = Int.ofNat a' := ⟨m.toNat, by ((try simp only [Int.ofNat_eq_natCast] at *); omega)⟩
        have c3 := c2 h a' m'
        rw [h, hyes, Bool.and_true, if_pos rfl, show (Int.ofNat a').toNat = a' from rfl, show (Int.ofNat m').toNat = m' from rfl] at hT
        rw [h, hyes, if_pos rfl, if_pos rfl] at hCd
        rw [← hT, hsa] at c3
        refine callI hC (by have hh := c4 h; (try simp only [hM] at hh); exact hh) ?_
        cbv
        have lH : pLlen (M rowS H) = Int.ofNat n := (llenIs hF _).trans (by rw [← hM, List.length_map, hHl]; rfl)
        obtain ⟨am, ham⟩ : ∃ am, am = a' + m' := ⟨_, rfl⟩
        have eam : pAdd .i64 (Int.ofNat a') (Int.ofNat m') = Int.ofNat am := ham ▸ addNIs hF (by ((try simp only [Int.ofNat_eq_natCast] at *); omega))
        rw [eam, lH]
        refine brT (zeroLe hF a') ?_
        refine brT (mkLe hF (by ((try simp only [Int.ofNat_eq_natCast] at *); omega))) ?_
        refine brT (mkLe hF (by ((try simp only [Int.ofNat_eq_natCast] at *); omega))) ?_
        try cbv
        have e2 : pIsub (Int.ofNat am) (Int.ofNat a') = Int.ofNat m' := by
          have : prims.isub (Int.ofNat am) (Int.ofNat a') = Int.ofNat m' := by
            show Int.ofNat am - Int.ofNat a' = _
            ((try simp only [Int.ofNat_eq_natCast] at *); omega)
          rw [hF] at this; exact this
        have e3 := (lsubIs hF (hM rowS H).symm a' m').trans (hM _ _)
        rw [e2, e3]
        refine callS hC (by have hh := c3; (try simp only [hM] at hh); exact hh) (fun s hs => ?_)
        cbv
        rw [hr, hs, hCd]
    · have hno : ok = false := by
        rw [hok]
        clear c1 c2 c4 cl hC hr hT hCd hb
        (first | (simp only [Bool.or_eq_true, Bool.and_eq_true, Bool.not_eq_true', Bool.or_eq_false_iff, Bool.and_eq_false_iff, Bool.not_eq_false', decide_eq_true_eq, decide_eq_false_iff_not, Bool.not_false, Bool.not_true, Bool.and_true, Bool.true_and, Bool.or_false, Bool.false_or, and_true, true_and, Int.ofNat_eq_natCast] at *; omega) | (simp only [Bool.eq_false_iff, ne_eq, Bool.or_eq_true, Bool.and_eq_true, Bool.not_eq_true', decide_eq_true_eq, decide_eq_false_iff_not, Bool.not_false, Bool.not_true, Bool.and_true, Bool.true_and, Bool.or_false, Bool.false_or, and_true, true_and, Int.ofNat_eq_natCast] at *; omega) | (simp only [Bool.or_eq_true, Bool.and_eq_true, Bool.not_eq_true', Bool.or_eq_false_iff, Bool.and_eq_false_iff, Bool.not_eq_false', decide_eq_true_eq, decide_eq_false_iff_not, Bool.not_false, Bool.not_true, Bool.and_true, Bool.true_and, Bool.or_false, Bool.false_or, and_true, true_and, Int.ofNat_eq_natCast] at *; grind) | grind)
      rw [h, hno] at hT hCd
      rw [hr, hT, hCd]; rfl
  · rw [h] at hT hCd
    rw [hr, hT, hCd]; rfl
end Go.Proofs.Ytngnflfjacappaa
