/- Functions of the program, each with what it returns, run by the evaluator; the conditions stand in the theorems. -/
import Derived.Test.YtngnflfjacappaaLRead2
namespace Go.Proofs.Ytngnflfjacappaa
open Go Go.Proofs.YtngnflfjacappaaW Go.Proofs
set_option linter.unusedVariables false
set_option linter.unusedSimpArgs false
set_option maxRecDepth 100000
set_option maxHeartbeats 8000000
/-! the sectors that a text fills -/
def restL (t : ByteArray) (i : Nat) : List UInt8 := t.data.toList.drop (64 * i)
def piece (t : ByteArray) (i : Nat) : ByteArray := ⟨⟨(restL t i).take 64 ++ List.replicate (64 - (restL t i).length) 0⟩⟩
def manyOf (t : ByteArray) : Nat := (t.size + 63) / 64
theorem restL_len (t : ByteArray) (i : Nat) : (restL t i).length = t.size - 64 * i := by rw [restL, List.length_drop]; rfl
theorem restL_succ (t : ByteArray) (i : Nat) : restL t (i + 1) = (restL t i).drop 64 := by rw [restL, restL, List.drop_drop]; congr 1
theorem ssubIs {F : Prims} (hF : prims = F) (s : ByteArray) (a b : Nat) : F.ssub s (Int.ofNat a) (Int.ofNat b) = ⟨⟨(s.data.toList.drop a).take (b - a)⟩⟩ := by
  subst hF
  show s.extract a b = _
  have e : (s.extract a b).data = ⟨(s.data.toList.drop a).take (b - a)⟩ := by
    rw [ByteArray.data_extract]
    apply Array.toList_inj.1
    rw [Array.toList_extract]
  cases h : s.extract a b with
  | mk d => rw [h] at e; exact congrArg ByteArray.mk e
theorem mk_cat (a b : List UInt8) : (⟨⟨a⟩⟩ : ByteArray) ++ ⟨⟨b⟩⟩ = ⟨⟨a ++ b⟩⟩ := by
  have e : ((⟨⟨a⟩⟩ : ByteArray) ++ ⟨⟨b⟩⟩).data = ⟨a ++ b⟩ := by
    rw [ByteArray.data_append]
    apply Array.toList_inj.1
    rw [Array.toList_append]
  cases h : ((⟨⟨a⟩⟩ : ByteArray) ++ ⟨⟨b⟩⟩) with
  | mk d => rw [h] at e; exact congrArg ByteArray.mk e
theorem piece_size (t : ByteArray) (i : Nat) : (piece t i).size = 64 := by
  show ((restL t i).take 64 ++ List.replicate (64 - (restL t i).length) 0).length = 64
  rw [List.length_append, List.length_take, List.length_replicate]; omega
def piecesL (t : ByteArray) (n : Nat) : List ByteArray := (List.range n).map (piece t)
theorem piecesL_succ (t : ByteArray) (n : Nat) : piecesL t (n + 1) = piecesL t n ++ [piece t n] := by rw [piecesL, piecesL, List.range_succ, List.map_append]; rfl
theorem piecesL_len (t : ByteArray) (n : Nat) : (piecesL t n).length = n := by rw [piecesL, List.length_map, List.length_range]
theorem pieces_ok (t : ByteArray) (ht : t.size ≤ 20000) : CallOK Try.prog 55 [aS t] ⟨.c (.own 1 ((piecesL t (manyOf t)).map rowS)), []⟩ := by
  have hz := fun c (hc : c ≤ 1000) => zeros_ok c hc
  obtain ⟨q, hq⟩ : ∃ q, q = (piecesL t (manyOf t)).map rowS := ⟨_, rfl⟩
  rw [← hq]
  obtain ⟨n, hn⟩ : ∃ n, n = manyOf t := ⟨_, rfl⟩
  rw [← hn] at hq
  have hnn : n = (t.size + 63) / 64 := hn
  obtain ⟨t0, ht0⟩ : ∃ t0, t0 = t := ⟨_, rfl⟩
  rw [← ht0]
  obtain ⟨M, hM⟩ := mapEx
  try simp only [hM]
  refine go Try.func55 rfl rfl rfl rfl fun pAdd pSub pMul pQuo pRem pAnd pOr pXor pAndNot pShl pShr pNeg pCompl pConv pLt pLe pEq pSlt pSle pSeq pCat pCatOk pSlen pSsub pSat pIadd pIsub pBnot pBeq pImin pImax pLlen pLsub pLapp pLset pLcopy pLenOk pBytes pRep hF Ca hC r hr => ?_
  cbv
  refine loop_u (α := Nat × ByteArray × List (List Y)) (fun z st => (st.str 0 z.2.1).ob 3001 (.ar 1 z.2.2)) (fun z => z.1 ≤ n ∧ z.2.1 = ⟨⟨restL t z.1⟩⟩ ∧ z.2.2 = (piecesL t z.1).map rowS) (fun z => n - z.1) (0, t0, []) rfl ⟨by omega, by rw [ht0]; rfl, rfl⟩ (fun K' hK I z hi ih => ?_)
  obtain ⟨i, rem, zs⟩ := z
  obtain ⟨hi, hrem, hzs⟩ := hi
  dsimp only at hi hrem hzs
  have hrs : rem.size = t.size - 64 * i := by rw [hrem, ← restL_len]; rfl
  have hzl : zs.length = i := by rw [hzs, List.length_map, piecesL_len]
  cbv
  refine brkI (fun h => ?_) (fun h => ?_) <;> try cbv
  · have h := seqT hF h
    have h0 : rem.size = 0 := by rw [h]; rfl
    have hin : i = n := by omega
    refine hK _ _ ?_
    cbv
    rw [hr, hq, hzs, hin]
  · have h := seqF hF h
    have h0 : 0 < rem.size := by
      rcases Nat.eq_zero_or_pos rem.size with h0 | h0
      · exfalso; apply h
        rw [hrem]
        have : (restL t i).length = 0 := by rw [restL_len]; omega
        rw [List.eq_nil_of_length_eq_zero this]
      · exact h0
    obtain ⟨k, hk⟩ : ∃ k, k = min rem.size 64 := ⟨_, rfl⟩
    have el : pSlen rem = Int.ofNat rem.size := slenIs hF rem
    obtain ⟨rs, hrs'⟩ : ∃ n, n = rem.size := ⟨_, rfl⟩
    rw [← hrs'] at el hk
    have em : pImin (Int.ofNat rs) 64 = Int.ofNat k := by
      have e : pImin (Int.ofNat rs) 64 = prims.imin (Int.ofNat rs) 64 := by rw [hF]
      rw [e]
      show (if (64 : Int) < Int.ofNat rs then 64 else Int.ofNat rs) = _
      split <;> ((try simp only [Int.ofNat_eq_natCast] at *); omega)
    rw [el, em]
    refine brT (zeroLe hF k) ?_
    refine brT (mkLe hF (by ((try simp only [Int.ofNat_eq_natCast] at *); omega))) ?_
    try cbv
    obtain ⟨z, hz0⟩ : ∃ z, z = 64 - k := ⟨_, rfl⟩
    have es : pSub .i64 64 (Int.ofNat k) = Int.ofNat z := (subIs hF (by ((try simp only [Int.ofNat_eq_natCast] at *); omega)) (by ((try simp only [Int.ofNat_eq_natCast] at *); omega))).trans (by ((try simp only [Int.ofNat_eq_natCast] at *); omega))
    rw [es]
    refine callS hC (hz z (by omega)) (fun zz hzz => ?_)
    cbv
    obtain ⟨p1, hp1⟩ : ∃ p, p = pSsub rem 0 (Int.ofNat k) := ⟨_, rfl⟩
    rw [← hp1]
    have hp1' : p1 = ⟨⟨(restL t i).take 64⟩⟩ := by
      have := ssubIs hF rem 0 k
      rw [hp1]
      refine this.trans ?_
      rw [hrem, List.drop_zero, Nat.sub_zero]
      show (⟨⟨(restL t i).take k⟩⟩ : ByteArray) = _
      have : (restL t i).take k = (restL t i).take 64 := by
        rw [hk]
        have hl := restL_len t i
        by_cases hc : rs ≤ 64
        · rw [Nat.min_eq_left hc, List.take_of_length_le (by omega), List.take_of_length_le (by omega)]
        · rw [Nat.min_eq_right (by omega)]
      rw [this]
    have hp1s : p1.size ≤ 64 := by rw [hp1']; show ((restL t i).take 64).length ≤ 64; rw [List.length_take]; omega
    have hzzs : zz.size ≤ 64 := by rw [hzz]; show (List.replicate z (0 : UInt8)).length ≤ 64; rw [List.length_replicate]; omega
    refine brT (catOkIs hF (by omega)) ?_
    try cbv
    have ec : pCat p1 zz = piece t i := by
      have : pCat p1 zz = p1 ++ zz := catIs hF _ _
      rw [this, hp1', hzz, zerosB, mk_cat, piece]
      have hl := restL_len t i
      have : z = 64 - (restL t i).length := by omega
      rw [this]
    rw [ec]
    obtain ⟨pc, hpc⟩ : ∃ pc, pc = piece t i := ⟨_, rfl⟩
    rw [← hpc]
    have g : pLenOk (pIadd (pLlen zs) 1) = true := by
      have e5 : pIadd (pLlen zs) 1 = Int.ofNat (i + 1) := by
        have e1 : pLlen zs = Int.ofNat i := hzl ▸ llenIs hF zs
        have : prims.iadd (Int.ofNat i) 1 = Int.ofNat (i + 1) := rfl
        rw [e1]; rw [hF] at this; exact this
      rw [e5]
      exact lenOkIs hF (by ((try simp only [Int.ofNat_eq_natCast] at *); omega))
    first
      | refine brT g ?_
      | (refine brT (by
          have e5 : pIadd (pLlen zs) (pLlen [[yS pc]]) = Int.ofNat (i + 1) := by
            have e1 : pLlen zs = Int.ofNat i := hzl ▸ llenIs hF zs
            have e2 : pLlen [[yS pc]] = Int.ofNat 1 := llenIs hF _
            have : prims.iadd (Int.ofNat i) (Int.ofNat 1) = Int.ofNat (i + 1) := rfl
            rw [e1, e2]; rw [hF] at this; exact this
          first | exact e5 ▸ lenOkIs hF (by ((try simp only [Int.ofNat_eq_natCast] at *); omega)) | (rw [e5]; exact lenOkIs hF (by ((try simp only [Int.ofNat_eq_natCast] at *); omega)))) ?_)
    try cbv
    rw [el]
    refine brT (zeroLe hF k) ?_
    refine brT (mkLe hF (by ((try simp only [Int.ofNat_eq_natCast] at *); omega))) ?_
    have e1 : pSsub rem (Int.ofNat k) (Int.ofNat rs) = ⟨⟨restL t (i + 1)⟩⟩ := by
      have := ssubIs hF rem k rs
      refine this.trans ?_
      rw [hrem]
      show (⟨⟨((restL t i).drop k).take (rs - k)⟩⟩ : ByteArray) = _
      have hl := restL_len t i
      rw [restL_succ]
      have : ((restL t i).drop k).take (rs - k) = (restL t i).drop 64 := by
        rw [List.take_of_length_le (by rw [List.length_drop]; omega)]
        by_cases hc : rs ≤ 64
        · rw [List.drop_eq_nil_of_le (by omega), List.drop_eq_nil_of_le (by omega)]
        · rw [show k = 64 from by omega]
      rw [this]
    have e2 : pLapp zs [[yS pc]] = (piecesL t (i + 1)).map rowS := by
      have : pLapp zs [[yS pc]] = zs ++ [[yS pc]] := lappIs hF _ _
      rw [this, hzs, piecesL_succ, List.map_append, hpc]; rfl
    conv => arg 1; cbv
    rw [e1, e2]
    exact ih (i + 1, _, _) _ ⟨by dsimp only; omega, rfl, rfl⟩ (by dsimp only; omega) rfl
/-- The writes of a text from a sector on. -/
def wrsL (t : ByteArray) (a : Int) (n : Nat) : List Wr := (List.range n).map fun i => ⟨a + Int.ofNat i, piece t i⟩
theorem wrsL_succ (t : ByteArray) (a : Int) (n : Nat) : wrsL t a (n + 1) = wrsL t a n ++ [⟨a + Int.ofNat n, piece t n⟩] := by rw [wrsL, wrsL, List.range_succ, List.map_append]; rfl
theorem wrsL_len (t : ByteArray) (a : Int) (n : Nat) : (wrsL t a n).length = n := by rw [wrsL, List.length_map, List.length_range]
def wrCode (d : Dsk) (a : Int) (t : ByteArray) : Int := if decide (0 ≤ a) && decide (a ≤ Int.ofNat d.secs.length - Int.ofNat (manyOf t)) then (if d.cache.length + manyOf t > 400 then 11 else 0) else 9
def wrDisk (d : Dsk) (a : Int) (t : ByteArray) : Dsk := if wrCode d a t = 0 then ⟨d.secs, d.cache ++ wrsL t a (manyOf t)⟩ else ⟨[], []⟩
theorem liesO_ok (d : Dsk) (a m : Int) (hm : d.secs.length ≤ 1048576) : CallOK Try.prog 34 [.io [.own 1 (d.secs.map rowS), .own 2 (d.cache.map Wr.row)], aN a, aN m] ⟨.c (.y (yB (decide (0 ≤ a) && decide (a ≤ prims.sub .i64 (Int.ofNat d.secs.length) m)))), [[.own 1 (d.secs.map rowS), .own 2 (d.cache.map Wr.row)]]⟩ := by
  obtain ⟨n, hn⟩ : ∃ n, n = d.secs.length := ⟨_, rfl⟩
  rw [← hn]
  obtain ⟨df, hdf⟩ : ∃ x, x = prims.sub .i64 (Int.ofNat n) m := ⟨_, rfl⟩
  rw [← hdf]
  have cw := within_ok a 0 df
  obtain ⟨q, hq⟩ : ∃ x, x = (decide (0 ≤ a) && decide (a ≤ df)) := ⟨_, rfl⟩
  rw [← hq] at cw ⊢
  obtain ⟨M, hM⟩ := mapEx
  try simp only [hM]
  refine go Try.func34 rfl rfl rfl rfl fun pAdd pSub pMul pQuo pRem pAnd pOr pXor pAndNot pShl pShr pNeg pCompl pConv pLt pLe pEq pSlt pSle pSeq pCat pCatOk pSlen pSsub pSat pIadd pIsub pBnot pBeq pImin pImax pLlen pLsub pLapp pLset pLcopy pLenOk pBytes pRep hF Ca hC r hr => ?_
  cbv
  have ls : pLlen (M rowS d.secs) = Int.ofNat n := (llenIs hF _).trans (by rw [← hM, List.length_map, ← hn]; rfl)
  rw [ls]
  have e1 : pSub .i64 (Int.ofNat n) m = df := by rw [hdf, hF]
  rw [e1]
  refine callB hC cw (fun h => ?_) (fun h => ?_) <;> try cbv
  all_goals rw [hr, h]
def dwCode (d : Dsk) (a : Int) (t : ByteArray) : Int := if tooLong t then 2 else if diskRight d then wrCode d a t else 1
def dwDisk (d : Dsk) (a : Int) (t : ByteArray) : Dsk := if tooLong t then ⟨[], []⟩ else if diskRight d then wrDisk d a t else ⟨[], []⟩
/-- What the writing leaves in the disk of one's own. -/
def wrLeft (d : Dsk) (a : Int) (t : ByteArray) : List Wr := if wrCode d a t = 0 then d.cache ++ wrsL t a (manyOf t) else d.cache
theorem write_ok (d : Dsk) (a : Int) (t : ByteArray) (ht : t.size ≤ 20000) (h1 : d.secs.length ≤ 700) (h2 : d.cache.length ≤ 400) (ia : I64 a) : CallOK Try.prog 30 [.io [.own 1 (d.secs.map rowS), .own 2 (d.cache.map Wr.row)], aN a, aS t] ⟨.c (.y (yN (wrCode d a t))), [[.own 1 (d.secs.map rowS), .own 2 ((wrLeft d a t).map Wr.row)]]⟩ := by
  have cp := pieces_ok t ht
  obtain ⟨m, hm⟩ : ∃ m, m = manyOf t := ⟨_, rfl⟩
  have hmm : m ≤ 313 := by rw [hm, manyOf]; omega
  have cl := liesO_ok d a (Int.ofNat m) (by omega)
  obtain ⟨n, hn⟩ : ∃ n, n = d.secs.length := ⟨_, rfl⟩
  obtain ⟨nc, hnc⟩ : ∃ n, n = d.cache.length := ⟨_, rfl⟩
  rw [← hn] at h1 cl
  rw [← hnc] at h2
  have hcode : wrCode d a t = if decide (0 ≤ a) && decide (a ≤ Int.ofNat n - Int.ofNat m) then (if nc + m > 400 then 11 else 0) else 9 := by rw [wrCode, ← hn, ← hnc, ← hm]
  have hleft : wrLeft d a t = if wrCode d a t = 0 then d.cache ++ wrsL t a m else d.cache := by rw [wrLeft, ← hm]
  obtain ⟨cd, hcd⟩ : ∃ c, c = wrCode d a t := ⟨_, rfl⟩
  rw [← hcd] at hcode hleft ⊢
  obtain ⟨lf, hlf⟩ : ∃ c, c = wrLeft d a t := ⟨_, rfl⟩
  rw [← hlf] at hleft ⊢
  have esub : prims.sub .i64 (Int.ofNat n) (Int.ofNat m) = Int.ofNat n - Int.ofNat m := wrap_i64 (by ((try simp only [Int.ofNat_eq_natCast] at *); omega)) (by ((try simp only [Int.ofNat_eq_natCast] at *); omega))
  rw [esub] at cl
  obtain ⟨lb, hlb⟩ : ∃ c, c = (decide (0 ≤ a) && decide (a ≤ Int.ofNat n - Int.ofNat m)) := ⟨_, rfl⟩
  rw [← hlb] at cl hcode
  have hpl := piecesL_len t m
  rw [← hm] at cp
  have hget : ∀ i (h : i < (piecesL t m).length), (piecesL t m)[i] = piece t i := fun i h => by simp [piecesL]
  obtain ⟨ps, hps⟩ : ∃ p, p = piecesL t m := ⟨_, rfl⟩
  rw [← hps] at cp hpl
  simp only [← hps] at hget
  unfold I64 at ia
  obtain ⟨M, hM⟩ := mapEx
  try simp only [hM]
  refine go Try.func30 rfl rfl rfl rfl fun pAdd pSub pMul pQuo pRem pAnd pOr pXor pAndNot pShl pShr pNeg pCompl pConv pLt pLe pEq pSlt pSle pSeq pCat pCatOk pSlen pSsub pSat pIadd pIsub pBnot pBeq pImin pImax pLlen pLsub pLapp pLset pLcopy pLenOk pBytes pRep hF Ca hC r hr => ?_
  cbv
  refine callI hC (by have hh := cp; (try simp only [hM] at hh); exact hh) ?_
  cbv
  have lp : pLlen (M rowS ps) = Int.ofNat m := (llenIs hF _).trans (by rw [← hM, List.length_map, hpl]; rfl)
  have lc : pLlen (M Wr.row d.cache) = Int.ofNat nc := (llenIs hF _).trans (by rw [← hM, List.length_map, hnc]; rfl)
  rw [lp]
  refine callI hC (by have hh := cl; (try simp only [hM] at hh); exact hh) ?_
  cbv
  cases lb with
  | false =>
    cbv
    rw [if_neg (by decide)] at hcode
    rw [hcode, if_neg (by decide)] at hleft
    rw [hr, hcode, hleft]
  | true =>
    rw [if_pos rfl] at hcode
    have hb := hlb.symm
    simp only [Bool.and_eq_true, decide_eq_true_eq] at hb
    cbv
    have ea : pAdd .i64 (Int.ofNat nc) (Int.ofNat m) = Int.ofNat (nc + m) := addNIs hF (by omega)
    obtain ⟨ncm, hncm⟩ : ∃ x, x = nc + m := ⟨_, rfl⟩
    rw [← hncm] at ea hcode
    rw [lc, lp, ea]
    refine brkI (fun h => ?_) (fun h => ?_) <;> try cbv
    · have h := ltT hF h
      rw [if_pos (by ((try simp only [Int.ofNat_eq_natCast] at *); omega))] at hcode
      rw [hcode, if_neg (by decide)] at hleft
      rw [hr, hcode, hleft]
    · have h := ltF hF h
      rw [if_neg (by ((try simp only [Int.ofNat_eq_natCast] at *); omega))] at hcode
      rw [hcode, if_pos rfl] at hleft
      rw [lp]
      refine loop_u (α := Nat × List (List Y)) (fun z st => (st.n 31 (Int.ofNat z.1)).ob 2 (.ar 2 z.2)) (fun z => z.1 ≤ m ∧ z.2 = (d.cache ++ wrsL t a z.1).map Wr.row) (fun z => m - z.1) (0, M Wr.row d.cache) rfl ⟨by omega, by dsimp only; rw [← hM, show wrsL t a 0 = [] from rfl, List.append_nil]⟩ (fun K' hK I z hi ih => ?_)
      obtain ⟨i, zs⟩ := z
      obtain ⟨hi, hz⟩ := hi
      dsimp only at hi hz
      have hzl : zs.length = nc + i := by rw [hz, List.length_map, List.length_append, wrsL_len, hnc]
      cbv
      refine brkI (fun h0 => ?_) (fun h0 => ?_) <;> try cbv
      · have h0' := h0
        have h0 := ltT hF h0
        have hs : i < ps.length := by ((try simp only [Int.ofNat_eq_natCast] at *); omega)
        refine brT (zeroLe hF i) ?_
        rw [lp]
        refine brT h0' ?_
        try cbv
        refine lgetM (l := ps) (fun u => [yS u]) (fun u => by simp only [rowS]) (hM _ _).symm hs fun u hu => ?_
        cbv
        have hu' : u = piece t i := hu.trans (hget i hs)
        have ea : pAdd .i64 a (Int.ofNat i) = a + Int.ofNat i := addIs hF (by ((try simp only [Int.ofNat_eq_natCast] at *); omega)) (by ((try simp only [Int.ofNat_eq_natCast] at *); omega))
        obtain ⟨ai, hai⟩ : ∃ x, x = a + Int.ofNat i := ⟨_, rfl⟩
        rw [ea, ← hai]
        have g : pLenOk (pIadd (pLlen zs) (pLlen [[yN ai, yS u]])) = true := by
          have e1 : pLlen zs = Int.ofNat (nc + i) := hzl ▸ llenIs hF zs
          have e2 : pLlen [[yN ai, yS u]] = Int.ofNat 1 := llenIs hF _
          have : prims.iadd (Int.ofNat (nc + i)) (Int.ofNat 1) = Int.ofNat (nc + i + 1) := rfl
          rw [e1, e2]; rw [hF] at this
          have e5 : pIadd (Int.ofNat (nc + i)) (Int.ofNat 1) = Int.ofNat (nc + i + 1) := this
          rw [e5]
          exact lenOkIs hF (by ((try simp only [Int.ofNat_eq_natCast] at *); omega))
        refine brT g ?_
        try cbv
        have e1 : pAdd .i64 (Int.ofNat i) 1 = Int.ofNat (i + 1) := add1Is hF (by ((try simp only [Int.ofNat_eq_natCast] at *); omega))
        have e2 : pLapp zs [[yN ai, yS u]] = (d.cache ++ wrsL t a (i + 1)).map Wr.row := by
          have : pLapp zs [[yN ai, yS u]] = zs ++ [[yN ai, yS u]] := lappIs hF _ _
          rw [this, hz, wrsL_succ, ← List.append_assoc, List.map_append (l₁ := d.cache ++ wrsL t a i), hai, hu']; rfl
        conv => arg 1; cbv
        rw [e1, e2]
        exact ih (i + 1, _) _ ⟨by dsimp only; ((try simp only [Int.ofNat_eq_natCast] at *); omega), rfl⟩ (by dsimp only; ((try simp only [Int.ofNat_eq_natCast] at *); omega)) rfl
      · have h0 := ltF hF h0
        have him : i = m := by ((try simp only [Int.ofNat_eq_natCast] at *); omega)
        refine hK _ _ ?_
        cbv
        rw [hr, hcode, hleft, hz, him]
        simp only [← hM]
theorem iDiskWrite_ok (d : Dsk) (a : Int) (t : ByteArray) (hm : Dsk.Bd 1048576 d) (ia : I64 a) (ht : t.size ≤ maxLen) : CallOK Try.prog 6 [.agg [.y (.sl 1 (d.secs.map rowS)), .y (.sl 2 (d.cache.map Wr.row))], aN a, aS t] ⟨.agg [.own 1 ((dwDisk d a t).secs.map rowS), .own 2 ((dwDisk d a t).cache.map Wr.row), .y (yS ⟨⟨[]⟩⟩), .y (yN (dwCode d a t))], []⟩ := by
  have c1 := iDiskRight_ok d (Dsk.big hm)
  have c2 := iCopy_ok d hm
  have c3 := fun (h : tooLong t = false) (hd : diskRight d = true) => write_ok d a t (by have := of_decide_eq_false h; omega) (diskRight_lens hd).1 (diskRight_lens hd).2 ia
  have hcode : dwCode d a t = if tooLong t then 2 else if diskRight d then wrCode d a t else 1 := rfl
  have hdisk : dwDisk d a t = if tooLong t then ⟨[], []⟩ else if diskRight d then wrDisk d a t else ⟨[], []⟩ := rfl
  obtain ⟨cd, hcd⟩ : ∃ c, c = dwCode d a t := ⟨_, rfl⟩
  obtain ⟨f, hf⟩ : ∃ c, c = dwDisk d a t := ⟨_, rfl⟩
  rw [← hcd] at hcode
  rw [← hf] at hdisk
  rw [← hcd, ← hf]
  have hwd : wrDisk d a t = if wrCode d a t = 0 then ⟨d.secs, wrLeft d a t⟩ else ⟨[], []⟩ := by
    rw [wrDisk, wrLeft]; split <;> rfl
  obtain ⟨wc, hwc⟩ : ∃ c, c = wrCode d a t := ⟨_, rfl⟩
  obtain ⟨wl, hwl⟩ : ∃ c, c = wrLeft d a t := ⟨_, rfl⟩
  obtain ⟨wd, hwdd⟩ : ∃ c, c = wrDisk d a t := ⟨_, rfl⟩
  rw [← hwc, ← hwl, ← hwdd] at hwd
  rw [← hwc, ← hwl] at c3
  rw [← hwc] at hcode
  rw [← hwdd] at hdisk
  obtain ⟨b, hb⟩ : ∃ b, b = diskRight d := ⟨_, rfl⟩
  rw [← hb] at c1 c3 hcode hdisk
  rw [ownD] at c2
  obtain ⟨M, hM⟩ := mapEx
  try simp only [hM]
  refine go Try.func6 rfl rfl rfl rfl fun pAdd pSub pMul pQuo pRem pAnd pOr pXor pAndNot pShl pShr pNeg pCompl pConv pLt pLe pEq pSlt pSle pSeq pCat pCatOk pSlen pSsub pSat pIadd pIsub pBnot pBeq pImin pImax pLlen pLsub pLapp pLset pLcopy pLenOk pBytes pRep hF Ca hC r hr => ?_
  cbv
  refine callB hC (isLong_ok [t] (by simp)) (fun h => ?_) (fun h => ?_) <;> cbv
  all_goals rw [List.any_cons, List.any_nil, Bool.or_false] at h
  · rw [h, if_pos rfl] at hcode hdisk
    rw [hr, hcode, hdisk]
    simp only [← hM]; rfl
  · rw [h, if_neg (by decide)] at hcode hdisk
    refine callB hC (by have hh := c1; (try simp only [hM] at hh); exact hh) (fun h1 => ?_) (fun h1 => ?_) <;> try cbv
    · rw [h1, if_pos rfl] at hcode hdisk
      refine callI hC (by have hh := c2; (try simp only [hM] at hh); exact hh) ?_
      cbv
      refine callI hC (by have hh := c3 h h1; (try simp only [hM] at hh); exact hh) ?_
      cbv
      refine brkI (fun h2 => ?_) (fun h2 => ?_) <;> try cbv
      · have h2 := eqT hF h2
        rw [if_pos h2] at hwd
        rw [hr, hcode, hdisk, hwd, h2]
      · have h2 := eqF hF h2
        rw [if_neg h2] at hwd
        rw [hr, hcode, hdisk, hwd]
        simp only [← hM]; rfl
    · rw [h1, if_neg (by decide)] at hcode hdisk
      rw [hr, hcode, hdisk]
      simp only [← hM]; rfl
end Go.Proofs.Ytngnflfjacappaa
