/- Functions of the program, each with what it returns, run by the evaluator; the conditions stand in the theorems. -/
import Derived.Test.YtngnflfjacappaaLFDisk3
import Derived.Test.YtngnflfjacappaaLApp
import Derived.Test.YtngnflfjacappaaLSrc4
namespace Go.Proofs.Ytngnflfjacappaa
open Go Go.Proofs.YtngnflfjacappaaW Go.Proofs
set_option linter.unusedVariables false
set_option linter.unusedSimpArgs false
set_option maxRecDepth 100000
set_option maxHeartbeats 8000000
/-! A drawn log. -/
theorem append_q {d : Dsk} (hd : SmallD d) {a : Int} (ha : I64 a) (n : Int) (t : ByteArray) : CallQ Try.prog 21 [.agg [.y (.sl 1 (d.secs.map rowS)), .y (.sl 2 (d.cache.map Wr.row))], aN a, .agg [.y (yN n), .y (yS t)]] (fun r => ∃ (D : Dsk) (c : Int), (c = 0 → SmallD D ∧ D.secs.length ≤ d.secs.length ∧ D.cache.length ≤ 400) ∧ r = ⟨.agg [.own 1 (D.secs.map rowS), .own 2 (D.cache.map Wr.row), .y (yS ⟨⟨[]⟩⟩), .y (yN c)], []⟩) := by
  refine CallOK.q (sLogAppend_ok d a n t hd.bd ha) ⟨apDisk d a n t, apCode d a n t, fun h => ?_, rfl⟩
  rw [apCode] at h
  cases hr : recordRight n t with
  | false => rw [hr] at h; cases h
  | true =>
    rw [hr] at h
    obtain ⟨A, rfl, w⟩ := wrote_of h
    have hl := diskRight_lens w.right
    have e : apDisk d (Int.ofNat A) n t = dwDisk d (Int.ofNat A) (recordBytes n t) := by rw [apDisk, ite_t hr]
    rw [e]
    exact ⟨⟨dwDisk_bd _ _ hd.bd, by rw [w.secs]; omega, by rw [w.len]; have := w.room; omega⟩, by rw [w.secs]; omega, by rw [w.len]; exact w.room⟩
theorem rbytes_q (n : Int) (t : ByteArray) : CallQ Try.prog 20 [.agg [.y (yN n), .y (yS t)]] (fun r => ∃ s : ByteArray, s.size ≤ 6100 ∧ r = St s) := by
  refine CallOK.q (sRecordBytes_ok n t) ⟨_, ?_, rfl⟩
  rw [recordBytes]
  split
  · rename_i h
    have := recordText_size h
    rw [ByteArray.size_append]
    have h4 : (four (crcBare (recordText n t))).size = 4 := rfl
    omega
  · exact Nat.zero_le _
theorem crash_q {d : Dsk} (hd : SmallD d) (keep : List Bool) (hk : keep.length ≤ 1000) : CallQ Try.prog 59 [.agg [.y (.sl 1 (d.secs.map rowS)), .y (.sl 2 (d.cache.map Wr.row))], .c (.y (.sl 1 (keep.map rowB)))] (fun r => ∃ D : Dsk, SmallD D ∧ r = ⟨.agg [.own 1 (D.secs.map rowS), .own 2 (D.cache.map Wr.row)], []⟩) := by
  refine CallOK.q (sCrash_ok d keep hd.bd (by rw [maxLen_is]; omega)) ⟨crash d keep, ⟨crash_bd hd.bd keep, ?_, ?_⟩, rfl⟩
  · rw [crash]; split
    · exact Nat.zero_le _
    · split
      · rw [putsTo_len]; exact hd.secs
      · exact hd.secs
  · rw [crash]; split
    · exact Nat.zero_le _
    · split
      · exact Nat.zero_le _
      · exact hd.cache
theorem keep_q {xs : List (List Y)} {a : Int} (h : SrcAt xs a) (m z n : Int) (h0 : 0 ≤ n) (h1 : n ≤ 1000) :
    CallQ Try.prog 60 [.io (srcC xs a m z), aN n] (fun r => ∃ (l : List Bool) (a m : Int), l.length ≤ 1000 ∧ SrcAt xs a ∧ r = ⟨.c (.own 1 (l.map rowB)), [srcC xs a m z]⟩) := by
  obtain ⟨M, hM⟩ := mapEx
  try simp only [hM]
  refine goQ Try.func60 rfl rfl rfl rfl fun pAdd pSub pMul pQuo pRem pAnd pOr pXor pAndNot pShl pShr pNeg pCompl pConv pLt pLe pEq pSlt pSle pSeq pCat pCatOk pSlen pSsub pSat pIadd pIsub pBnot pBeq pImin pImax pLlen pLsub pLapp pLset pLcopy pLenOk pBytes pRep hF Ca hC Q1 hQ => ?_
  cbv
  have ln : ∀ {α : Type} (f : α → List Y) (l : List α), pLlen (M f l) = Int.ofNat l.length := fun f l => (llenIs hF (M f l)).trans (by rw [← hM, List.length_map]; rfl)
  have e1 : ∀ (s : List Bool) (b : Bool), pLapp (M rowB s) [[Y.sc (.bool b)]] = M rowB (s ++ [b]) := fun s b => by
    have : prims.lapp (s.map rowB) [rowB b] = (s ++ [b]).map rowB := by rw [List.map_append]; rfl
    rw [hF] at this; simp only [hM] at this; exact this
  have one : ∀ r : List Y, pLlen [r] = 1 := fun r => (llenIs hF _).trans rfl
  have ia : ∀ n : Nat, pIadd (Int.ofNat n) 1 = Int.ofNat n + 1 := fun n => by
    have : prims.iadd (Int.ofNat n) 1 = Int.ofNat n + 1 := rfl
    rw [hF] at this; exact this
  have nil : M rowB ([] : List Bool) = [] := (hM _ _).symm
  refine loop_u (α := List Bool × Int × Int × Int) (fun (l, k, a, m) st => ((st.n 1 k).ob 0 (.bx [.y (.sl 1 xs), .y (yN a), .y (.sc (.int .u64 m)), .y (yN z)])).ob 5001 (.ar 1 (M rowB l))) (fun s => 0 ≤ s.2.1 ∧ Int.ofNat s.1.length + s.2.1 = n ∧ SrcAt xs s.2.2.1) (fun s => s.2.1.toNat) ([], n, a, m) (by dsimp only; rw [nil]; rfl) ⟨h0, by show Int.ofNat 0 + n = n; ((try simp only [Int.ofNat_eq_natCast] at *); omega), h⟩ (fun K' hK I s hi ih => ?_)
  obtain ⟨l, k, a, m⟩ := s
  obtain ⟨hk, hl, ha⟩ := hi
  dsimp only at hk hl ha
  cbv
  refine brkI (fun h => ?_) (fun h => ?_) <;> try cbv
  · have h := ltT hF h
    refine callQ hC (one_q ha m z 2 (by decide)) ?_
    rintro r ⟨b, a1, m1, ha, rfl⟩
    cbv
    refine brT (lenOkIs hF (by rw [one, ln, ia]; ((try simp only [Int.ofNat_eq_natCast] at *); omega))) ?_
    try cbv
    rw [e1, show pSub .i64 k 1 = k - 1 from subIs hF (by omega) (by have := Int.natCast_nonneg l.length; ((try simp only [Int.ofNat_eq_natCast] at *); omega))]
    conv => arg 1; cbv
    exact ih (l ++ [b], k - 1, a1, m1) _ ⟨by dsimp only; omega, by dsimp only; rw [List.length_append]; show Int.ofNat (l.length + 1) + (k - 1) = n; ((try simp only [Int.ofNat_eq_natCast] at *); omega), ha⟩ (by dsimp only; omega) rfl
  · have h := ltF hF h
    refine hK _ _ ?_
    cbv
    exact hQ _ ⟨l, _, _, by ((try simp only [Int.ofNat_eq_natCast] at *); omega), ha, rfl⟩
theorem logged_q {xs : List (List Y)} {a : Int} (h : SrcAt xs a) (m z : Int) :
    CallQ Try.prog 40 [.io (srcC xs a m z)] (fun r => ∃ (d : Dsk) (f a m : Int), SmallD d ∧ I64 f ∧ SrcAt xs a ∧ r = ⟨.tup [(true, [.own 1 (d.secs.map rowS), .own 2 (d.cache.map Wr.row)]), (false, [.y (yN f)])], [srcC xs a m z]⟩) := by
  obtain ⟨M, hM⟩ := mapEx
  try simp only [hM]
  refine goQ Try.func40 rfl rfl rfl rfl fun pAdd pSub pMul pQuo pRem pAnd pOr pXor pAndNot pShl pShr pNeg pCompl pConv pLt pLe pEq pSlt pSle pSeq pCat pCatOk pSlen pSsub pSat pIadd pIsub pBnot pBeq pImin pImax pLlen pLsub pLapp pLset pLcopy pLenOk pBytes pRep hF Ca hC Q1 hQ => ?_
  cbv
  have fD := flatR_D
  have fDO := flatR_DO
  have cA := @append_q
  have cF := @flush_q
  have cN := @new_q
  have cK := @keep_q
  have cC := @crash_q
  simp only [hM] at fD fDO cA cF cN cK cC
  refine callQ hC (n_q h m z 12 (by decide)) ?_
  rintro r ⟨q, a, m, h2, h3, ha, rfl⟩
  cbv
  rw [show pAdd .i64 3 q = 3 + q from addIs hF (by omega) (by omega)]
  refine callQ hC (cN ⟨by omega, by omega⟩) ?_
  rintro r ⟨d0, hd0, rfl⟩
  cbv
  refine ⟨fD d0, ?_⟩
  refine callQ hC (n_q ha m z 3 (by decide)) ?_
  rintro r ⟨f, a, m, f2, f3, ha, rfl⟩
  cbv
  refine loop_u (α := Dsk × Int × Int × Int × Int) (fun (d, p, k, a, m) st => ((((st.n 5 p).n 7 k).ob 0 (.bx [.y (.sl 1 xs), .y (yN a), .y (.sc (.int .u64 m)), .y (yN z)])).ob 4001 (.ar 1 (M rowS d.secs))).ob 4002 (.ar 2 (M Wr.row d.cache))) (fun s => SmallD s.1 ∧ 0 ≤ s.2.1 ∧ s.2.1 ≤ 1000 * s.2.2.1 ∧ 1 ≤ s.2.2.1 ∧ s.2.2.1 ≤ 100 ∧ SrcAt xs s.2.2.2.1) (fun s => (100 - s.2.2.1).toNat) (d0, f, 1, a, m) rfl ⟨hd0.1, f2, by dsimp only; omega, by dsimp only; omega, by dsimp only; omega, ha⟩ (fun K' hK I s hi ih => ?_)
  obtain ⟨d, p, k, a, m⟩ := s
  obtain ⟨hd, hp0, hp1, hk0, hk1, ha⟩ := hi
  dsimp only at hd hp0 hp1 hk0 hk1 ha
  cbv
  refine callQ hC (n_q ha m z 5 (by decide)) ?_
  rintro r ⟨q, a, m, q0, q1, ha, rfl⟩
  cbv
  have e1 : pAdd .i64 1 q = 1 + q := addIs hF (by omega) (by omega)
  refine brkI (fun h => ?_) (fun h => ?_) <;> try cbv
  · have h := leT hF h
    rw [e1] at h
    have ek : pAdd .i64 k 1 = k + 1 := addIs hF (by omega) (by omega)
    refine callQ hC (one_q ha m z 8 (by decide)) ?_
    rintro r ⟨b, a, m, ha, rfl⟩
    cbv
    cases b <;> try cbv
    all_goals (
      refine callQ hC (n_q ha m z 80 (by decide)) ?_
      rintro r ⟨q, a, m, q0, q1, ha, rfl⟩
      cbv
      refine callQ hC (bytes_q ha m z q (by omega) (by omega)) ?_
      rintro r ⟨t, a, m, ht, ha, rfl⟩
      cbv
      refine callQ hC (cA hd ⟨by omega, by omega⟩ _ t) ?_
      rintro r ⟨D, c, hD, rfl⟩
      cbv
      refine And.intro (fDO _ _ _) ?_
      try cbv
      refine brkI (fun hc => ?_) (fun hc => ?_) <;> try cbv)
    all_goals (first
      | (obtain ⟨hD1, hD2, hD3⟩ := hD (eqT hF hc)
         refine callQ hC (rbytes_q _ t) ?_
         rintro r ⟨s, hs, rfl⟩
         cbv
         have e2 : pSub .i64 (pAdd .i64 (pSlen s) 64) 1 = Int.ofNat (s.size + 63) := by
           rw [show pSlen s = Int.ofNat s.size from slenIs hF s, show pAdd .i64 (Int.ofNat s.size) 64 = Int.ofNat (s.size + 64) from (addIs hF (by ((try simp only [Int.ofNat_eq_natCast] at *); omega)) (by ((try simp only [Int.ofNat_eq_natCast] at *); omega))).trans (by ((try simp only [Int.ofNat_eq_natCast] at *); omega))]
           exact (subIs hF (by ((try simp only [Int.ofNat_eq_natCast] at *); omega)) (by ((try simp only [Int.ofNat_eq_natCast] at *); omega))).trans (by ((try simp only [Int.ofNat_eq_natCast] at *); omega))
         rw [e2]
         refine brF (mkNe hF (by decide)) ?_
         try cbv
         rw [show pQuo .i64 (Int.ofNat (s.size + 63)) 64 = Int.ofNat ((s.size + 63) / 64) from quo64 hF _ (by omega)]
         obtain ⟨mm, hmm⟩ : ∃ x, x = (s.size + 63) / 64 := ⟨_, rfl⟩
         rw [← hmm]
         have hmm9 : mm ≤ 100 := by omega
         rw [show pAdd .i64 p (Int.ofNat mm) = p + Int.ofNat mm from addIs hF (by ((try simp only [Int.ofNat_eq_natCast] at *); omega)) (by ((try simp only [Int.ofNat_eq_natCast] at *); omega))]
         conv => arg 1; cbv
         rw [ek]
         exact ih (D, p + Int.ofNat mm, k + 1, a, m) _ ⟨hD1, by dsimp only; ((try simp only [Int.ofNat_eq_natCast] at *); omega), by dsimp only; ((try simp only [Int.ofNat_eq_natCast] at *); omega), by dsimp only; omega, by dsimp only; omega, ha⟩ (by dsimp only; omega) rfl)
      | (conv => arg 1; cbv
         rw [ek]
         exact ih (d, p, k + 1, a, m) _ ⟨hd, by dsimp only; omega, by dsimp only; omega, by dsimp only; omega, by dsimp only; omega, ha⟩ (by dsimp only; omega) rfl))
  · refine hK _ _ ?_
    cbv
    refine callQ hC (one_q ha m z 2 (by decide)) ?_
    rintro r ⟨b, a, m, ha, rfl⟩
    cbv
    obtain ⟨f9, hf9⟩ : ∃ x : Int, x = f := ⟨_, rfl⟩
    have hf : I64 f := ⟨by omega, by omega⟩
    cases b <;> try cbv
    all_goals (try (refine callQ hC (cF hd) ?_; rintro r ⟨D', hf', rfl⟩; cbv; try (refine And.intro (fD _) ?_; try cbv); have hd := hf'.1))
    all_goals (
      refine callQ hC (one_q (by assumption) _ z 5 (by decide)) ?_
      rintro r ⟨b, a, m, ha, rfl⟩
      cbv
      cases b <;> try cbv)
    all_goals (try (exact hQ _ ⟨_, _, _, _, hd, hf, ha, rfl⟩))
    all_goals (repeat' (first
      | (refine And.intro (fD _) ?_; try cbv)
      | (refine And.intro ?_ ?_ <;> try cbv)
      | (refine callQ hC (cK (by assumption) _ z 12 (by decide) (by decide)) ?_; rintro r ⟨l, a1, m1, hl, h4, rfl⟩; try cbv)
      | (refine callQ hC (cC hd l hl) ?_; rintro r ⟨D9, hD9, rfl⟩; try cbv)))
    all_goals exact hQ _ ⟨_, _, _, _, hD9, hf, by assumption, rfl⟩
theorem drawLogRead_q {xs : List (List Y)} (h : IsCode xs) : CallQ Try.prog 14 [.c (.y (.sl 1 xs))]
    (fun r => ∃ (d : Dsk) (f s : Int), SmallD d ∧ I64 f ∧ I64 s ∧ r = ⟨.tup [(true, [.own 1 (d.secs.map rowS), .own 2 (d.cache.map Wr.row)]), (false, [.y (yN f)]), (false, [.y (yN s)])], []⟩) := by
  obtain ⟨M, hM⟩ := mapEx
  try simp only [hM]
  refine goQ Try.func14 rfl rfl rfl rfl fun pAdd pSub pMul pQuo pRem pAnd pOr pXor pAndNot pShl pShr pNeg pCompl pConv pLt pLe pEq pSlt pSle pSeq pCat pCatOk pSlen pSsub pSat pIadd pIsub pBnot pBeq pImin pImax pLlen pLsub pLapp pLset pLcopy pLenOk pBytes pRep hF Ca hC Q1 hQ => ?_
  cbv
  have cL := @logged_q
  simp only [hM] at cL
  refine callQ hC (source_q h) ?_
  rintro r ⟨m, z, _, _, ha, rfl⟩
  cbv
  refine callQ hC (cL ha m z) ?_
  rintro r ⟨d, f, a, m, hd, hf, ha, rfl⟩
  cbv
  refine callQ hC (one_q ha m z 10 (by decide)) ?_
  rintro r ⟨b, a, m, ha, rfl⟩
  cbv
  have one1 : I64 1 := ⟨by decide, by decide⟩
  cases b <;> try cbv
  · refine callQ hC (one_q ha m z 6 (by decide)) ?_
    rintro r ⟨b, a, m, ha, rfl⟩
    cbv
    cases b <;> try cbv
    · exact hQ _ ⟨d, f, 1, hd, hf, one1, rfl⟩
    · refine callQ hC (n_q ha m z 3 (by decide)) ?_
      rintro r ⟨q, a, m, q0, q1, ha, rfl⟩
      cbv
      rw [show pAdd .i64 1 q = 1 + q from addIs hF (by omega) (by omega)]
      exact hQ _ ⟨d, f, 1 + q, hd, hf, ⟨by omega, by omega⟩, rfl⟩
  · repeat' (first
      | (refine And.intro ?_ ?_ <;> try cbv)
      | (refine callQ hC (n_q (by assumption) _ z 20 (by decide)) ?_; rintro r ⟨q, a1, m1, h2, h3, h4, rfl⟩; try cbv)
      | (refine callQ hC (edge_q (by assumption) _ z) ?_; rintro r ⟨e, a1, m1, he, h4, rfl⟩; try cbv))
    all_goals (try rw [show pSub .i64 q 1 = q - 1 from subIs hF (by omega) (by omega)])
    all_goals exact hQ _ ⟨d, _, _, hd, ⟨by omega, by omega⟩, he, rfl⟩
/-- A number out of a code. -/
def lwVal (l : List UInt8) (i : Nat) (most : Int) : Int := if most ≤ 1 then 0 else if l.length = 0 then 0 else Int.ofNat (l.getD (i % l.length) 0).toNat % most
theorem lwAt_ok (l : List UInt8) (hl : l.length ≤ 1048576) (i : Nat) (most : Int) (hi : i ≤ 1000) (hm : most ≤ 4611686018427387904) : CallOK Try.prog 12 [.c (.y (.sl 1 (bytesL l))), aN (Int.ofNat i), aN most] (N (lwVal l i most)) := by
  obtain ⟨xs, hx⟩ : ∃ xs, xs = bytesL l := ⟨_, rfl⟩
  obtain ⟨v, hv⟩ : ∃ v, v = lwVal l i most := ⟨_, rfl⟩
  have hxl : xs.length = l.length := by rw [hx, bytesL, List.length_map]
  have hget : ∀ j, j < l.length → xs[j]? = some [Y.sc (.int .u8 (Int.ofNat (l.getD j 0).toNat))] := fun j hj => by
    rw [hx, bytesL, List.getElem?_map, List.getElem?_eq_getElem hj, getD_at hj]; rfl
  have hb : ∀ j, 0 ≤ Int.ofNat (l.getD j 0).toNat ∧ Int.ofNat (l.getD j 0).toNat < 256 := fun j => ⟨Int.natCast_nonneg _, by have := (l.getD j 0).toNat_lt; ((try simp only [Int.ofNat_eq_natCast] at *); omega)⟩
  rw [← hx, ← hv]
  rw [lwVal] at hv
  clear hx
  obtain ⟨M, hM⟩ := mapEx
  try simp only [hM]
  refine go Try.func12 rfl rfl rfl rfl fun pAdd pSub pMul pQuo pRem pAnd pOr pXor pAndNot pShl pShr pNeg pCompl pConv pLt pLe pEq pSlt pSle pSeq pCat pCatOk pSlen pSsub pSat pIadd pIsub pBnot pBeq pImin pImax pLlen pLsub pLapp pLset pLcopy pLenOk pBytes pRep hF Ca hC r hr => ?_
  cbv
  refine brkI (fun h1 => ?_) (fun h1 => ?_) <;> try cbv
  · rw [if_pos (leT hF h1)] at hv; rw [hr, hv]
  have h1 := leF hF h1
  rw [if_neg (show ¬ most ≤ 1 by omega)] at hv
  have el : pLlen xs = Int.ofNat l.length := (llenIs hF xs).trans (by rw [hxl]; rfl)
  refine brkI (fun h2 => ?_) (fun h2 => ?_) <;> try cbv
  · have h2 := eqT hF h2
    rw [el] at h2
    rw [if_pos (Int.ofNat.inj h2)] at hv; rw [hr, hv]
  have h2 := eqF hF h2
  rw [el] at h2
  have hl0 : 0 < l.length := by ((try simp only [Int.ofNat_eq_natCast] at *); omega)
  rw [if_neg (by omega)] at hv
  rw [el]
  refine brF (mkNe hF (by ((try simp only [Int.ofNat_eq_natCast] at *); omega))) ?_
  try cbv
  have er : pRem .i64 (Int.ofNat i) (Int.ofNat l.length) = Int.ofNat (i % l.length) := by
    have : prims.rem .i64 (Int.ofNat i) (Int.ofNat l.length) = Int.ofNat (i % l.length) := rfl
    rw [hF] at this; exact this
  rw [er]
  have hk := Nat.mod_lt i hl0
  obtain ⟨j, hj⟩ : ∃ j, j = i % l.length := ⟨_, rfl⟩
  rw [← hj] at hk hv ⊢
  have g := hget j hk
  have hb := hb j
  obtain ⟨b, hb2⟩ : ∃ b, b = Int.ofNat (l.getD j 0).toNat := ⟨_, rfl⟩
  rw [← hb2] at g hb hv
  refine ⟨_, ⟨Int.natCast_nonneg _, g⟩, ?_⟩
  cbv
  rw [show pConv .i64 b = b from by
    have : prims.conv .i64 b = b := wrap_i64 (by omega) (by omega)
    rw [hF] at this; exact this]
  refine brF (mkNe hF (by omega)) ?_
  try cbv
  rw [show pRem .i64 b most = b % most from by
    have : prims.rem .i64 b most = b % most := Int.tmod_eq_emod_of_nonneg hb.1
    rw [hF] at this; exact this]
  rw [hr, hv]
end Go.Proofs.Ytngnflfjacappaa
