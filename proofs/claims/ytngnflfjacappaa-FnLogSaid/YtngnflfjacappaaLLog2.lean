/- Functions of the program, each with what it returns, run by the evaluator; the conditions stand in the theorems. -/
import Derived.Test.YtngnflfjacappaaLLog
namespace Go.Proofs.Ytngnflfjacappaa
open Go Go.Proofs.YtngnflfjacappaaW Go.Proofs
set_option linter.unusedVariables false
set_option linter.unusedSimpArgs false
set_option maxRecDepth 100000
set_option maxHeartbeats 8000000
theorem sectorsOf_ok (n : Nat) (hn : n ≤ 1000000000) : CallOK Try.prog 62 [aN (Int.ofNat n)] (N (Int.ofNat ((n + 63) / 64))) := by
  obtain ⟨q, hq⟩ : ∃ q, q = Int.ofNat ((n + 63) / 64) := ⟨_, rfl⟩
  rw [← hq]
  obtain ⟨M, hM⟩ := mapEx
  try simp only [hM]
  refine go Try.func62 rfl rfl rfl rfl fun pAdd pSub pMul pQuo pRem pAnd pOr pXor pAndNot pShl pShr pNeg pCompl pConv pLt pLe pEq pSlt pSle pSeq pCat pCatOk pSlen pSsub pSat pIadd pIsub pBnot pBeq pImin pImax pLlen pLsub pLapp pLset pLcopy pLenOk pBytes pRep hF Ca hC r hr => ?_
  cbv
  refine brF (mkNe hF (by decide)) ?_
  try cbv
  have a1 : pAdd .i64 (Int.ofNat n) 64 = Int.ofNat (n + 64) := addIs hF (by ((try simp only [Int.ofNat_eq_natCast] at *); omega)) (by ((try simp only [Int.ofNat_eq_natCast] at *); omega))
  have a2 : pSub .i64 (Int.ofNat (n + 64)) 1 = Int.ofNat (n + 63) := (subIs hF (by ((try simp only [Int.ofNat_eq_natCast] at *); omega)) (by ((try simp only [Int.ofNat_eq_natCast] at *); omega))).trans (by ((try simp only [Int.ofNat_eq_natCast] at *); omega))
  have a3 : pQuo .i64 (Int.ofNat (n + 63)) 64 = Int.ofNat ((n + 63) / 64) := by
    have : prims.quo .i64 (Int.ofNat (n + 63)) 64 = Int.ofNat ((n + 63) / 64) := by
      show IntKind.i64.wrap (Int.tdiv _ _) = _
      rw [Int.tdiv_eq_ediv_of_nonneg (show 0 ≤ Int.ofNat (n + 63) from Int.natCast_nonneg _)]
      exact (wrap_i64 (by ((try simp only [Int.ofNat_eq_natCast] at *); omega)) (by ((try simp only [Int.ofNat_eq_natCast] at *); omega))).trans (by ((try simp only [Int.ofNat_eq_natCast] at *); omega))
    rw [hF] at this; exact this
  rw [a1, a2, a3, ← hq]
  exact hr.symm
theorem iLog_ok (d : Dsk) (f0 : Nat) (seq0 : Int) (hd : diskRight d = true) (hf0 : f0 ≤ d.secs.length) (hq0 : 1 ≤ seq0 ∧ seq0 ≤ 1000000000) :
    CallOK Try.prog 42 [.agg [.y (.sl 1 (d.secs.map rowS)), .y (.sl 2 (d.cache.map Wr.row))], aN (Int.ofNat f0), aN seq0] (logRes (logGo (hasD d) 701 f0 seq0).1 (Int.ofNat (logGo (hasD d) 701 f0 seq0).2)) := by
  have c1 := has_ok d hd
  rw [show putsTo d (fun _ => true) d.cache.length = hasD d from rfl] at c1
  have h64 := hasD_64 hd
  have hlen := hasD_len d
  have h700 := (diskRight_lens hd).1
  have hcl := catL_size h64
  have c0 := joinE_ok (hasD d) (by omega) (by rw [hcl]; omega)
  have hall : (joinE (hasD d)).size = 64 * (hasD d).length := hcl
  have hext := fun f => join_drop h64 f
  have hts : ∀ f, (joinE ((hasD d).drop f)).size ≤ 1000000000 := fun f => by
    have := catL_size (L := (hasD d).drop f) fun u hu => h64 u (List.mem_of_mem_drop hu)
    rw [List.length_drop] at this
    show (catL _).length ≤ _
    rw [this]; omega
  have c3 : ∀ (f : Nat) (seq : Int), ∃ n x ok e, CallOK Try.prog 61 [aB8 76, aS (joinE ((hasD d).drop f))] (hdRes n x e ok) ∧
      (ok && recordRight n x && decide (n = seq)) = good (joinE ((hasD d).drop f)) seq ∧ (good (joinE ((hasD d).drop f)) seq = true → n = seq ∧ x = (hdW (joinE ((hasD d).drop f))).1 ∧ e = (hdW (joinE ((hasD d).drop f))).2.1 + 4) := fun f seq => by
    have hc := iHead_ok (joinE ((hasD d).drop f)) (hts f)
    cases ho : hdOk (joinE ((hasD d).drop f)) with
    | false =>
      rw [ho] at hc
      exact ⟨_, _, _, _, hc, by rw [good, ho]; rfl, fun h => by rw [good, ho] at h; cases h⟩
    | true =>
      rw [ho] at hc
      exact ⟨_, _, _, _, hc, by rw [good, ho], fun h => ⟨(good_text h).2.2.1, rfl, rfl⟩⟩
  obtain ⟨H, hH⟩ : ∃ H, H = hasD d := ⟨_, rfl⟩
  rw [← hH] at c0 c1 h64 hlen hall hext c3
  rw [← hH]
  clear hts hcl
  have hfit := fun (f : Nat) (seq : Int) => sect_fit h64 (f := f) (seq := seq)
  obtain ⟨Q, hQ⟩ : ∃ Q, Q = logGo H 701 f0 seq0 := ⟨_, rfl⟩
  rw [← hQ]
  obtain ⟨Q1, Q2⟩ := Q
  dsimp only
  obtain ⟨TT, hTT⟩ : ∃ TT : Nat → ByteArray, TT = fun f => joinE (H.drop f) := ⟨_, rfl⟩
  have eT : ∀ f, joinE (H.drop f) = TT f := fun f => by rw [hTT]
  simp only [eT] at c3 hfit hext
  obtain ⟨al, hal⟩ : ∃ al, al = joinE H := ⟨_, rfl⟩
  rw [← hal] at c0 hall
  simp only [← hal] at hext
  obtain ⟨M, hM⟩ := mapEx
  try simp only [hM]
  refine go Try.func42 rfl rfl rfl rfl fun pAdd pSub pMul pQuo pRem pAnd pOr pXor pAndNot pShl pShr pNeg pCompl pConv pLt pLe pEq pSlt pSle pSeq pCat pCatOk pSlen pSsub pSat pIadd pIsub pBnot pBeq pImin pImax pLlen pLsub pLapp pLset pLcopy pLenOk pBytes pRep hF Ca hC r hr => ?_
  cbv
  refine callI hC (by have hh := c1; (try simp only [hM, List.map_nil] at hh); exact hh) ?_
  cbv
  refine callI hC (by have hh := c0; (try simp only [hM, List.map_nil] at hh); exact hh) ?_
  cbv
  obtain ⟨nH, hnH⟩ : ∃ n, n = H.length := ⟨_, rfl⟩
  rw [← hnH] at hlen hfit hall
  rw [← hlen] at h700 hf0
  have esl : pSlen al = Int.ofNat (64 * nH) := (slenIs hF al).trans (by rw [hall]; rfl)
  refine loop_u (α := Nat × Nat × Int × List (List Y)) (fun z st => ((st.n 1 (Int.ofNat z.2.1)).n 2 z.2.2.1).ob 9001 (.ar 2 z.2.2.2)) (fun z => z.2.1 ≤ nH ∧ nH ≤ z.2.1 + z.1 ∧ 1 ≤ z.2.2.1 ∧ z.2.2.1 ≤ 1000000001 ∧ ∃ acc : List Rcd, z.2.2.2 = acc.map Rcd.row ∧ acc.length ≤ z.2.1 ∧ (Q1, Q2) = (acc ++ (logGo H z.1 z.2.1 z.2.2.1).1, (logGo H z.1 z.2.1 z.2.2.1).2)) (fun z => nH - z.2.1) (701, f0, seq0, []) rfl ⟨hf0, by dsimp only; omega, by dsimp only; omega, by dsimp only; omega, [], rfl, Nat.zero_le _, by dsimp only; rw [hQ]; rfl⟩ (fun K' hK I z hi ih => ?_)
  obtain ⟨k, f, seq, zs⟩ := z
  obtain ⟨hf, hk, hq1, hq2, acc, hz, hacl, hQ⟩ := hi
  dsimp only at hf hk hq1 hq2 hz hacl hQ
  have hzl : zs.length = acc.length := by rw [hz, List.length_map]
  have stop : ¬ (f < nH ∧ good (TT f) seq = true) → Q1.map Rcd.row = zs ∧ Q2 = f := fun h => by
    have := logGo_no (H := H) (k := k) (f := f) (seq := seq) (by rw [← hnH, eT]; exact h)
    rw [this] at hQ
    simp only [Prod.mk.injEq, List.append_nil] at hQ
    rw [hQ.1, hQ.2, hz]
    exact ⟨rfl, rfl⟩
  have em : pMul .i64 (Int.ofNat f) 64 = Int.ofNat (64 * f) := (mulIs hF (by ((try simp only [Int.ofNat_eq_natCast] at *); omega)) (by ((try simp only [Int.ofNat_eq_natCast] at *); omega))).trans (by ((try simp only [Int.ofNat_eq_natCast] at *); omega))
  have isq := isSeq_ok seq
  obtain ⟨sb, hsb⟩ : ∃ b, b = (decide (1 ≤ seq) && decide (seq ≤ 1000000000)) := ⟨_, rfl⟩
  rw [← hsb] at isq
  have crr := fun n x => iRecordRight_ok n x
  cbv
  refine callI hC isq ?_
  cases sb <;> cbv
  · have hno : ¬ seq ≤ 1000000000 := fun hh => by rw [decide_eq_true hq1, decide_eq_true hh] at hsb; cases hsb
    obtain ⟨e1, e2⟩ := stop fun hh => hno (good_text hh.2).2.2.2.2
    rw [e1, e2] at hr
    refine hK _ _ ?_
    cbv
    exact hr.symm
  rw [em, esl]
  refine brkI (fun h => ?_) (fun h => ?_) <;> try cbv
  rotate_left
  · have h := ltF hF h
    obtain ⟨e1, e2⟩ := stop fun hh => by ((try simp only [Int.ofNat_eq_natCast] at *); omega)
    rw [e1, e2] at hr
    refine hK _ _ ?_
    cbv
    exact hr.symm
  have h := ltT hF h
  have hfl : f < nH := by ((try simp only [Int.ofNat_eq_natCast] at *); omega)
  obtain ⟨n, x, ok, en, cr, hg, hy⟩ := c3 f seq
  have crr := crr n x
  rw [em]
  refine brT (zeroLe hF _) ?_
  try cbv
  rw [esl]
  refine brT (mkLe hF (by ((try simp only [Int.ofNat_eq_natCast] at *); omega))) ?_
  try cbv
  have eex : pSsub al (Int.ofNat (64 * f)) (Int.ofNat (64 * nH)) = TT f := by
    rw [← hext f, hall]
    have : prims.ssub al (Int.ofNat (64 * f)) (Int.ofNat (64 * nH)) = al.extract (64 * f) (64 * nH) := rfl
    rw [hF] at this; exact this
  rw [eex]
  obtain ⟨tx, htx⟩ : ∃ tx, tx = TT f := ⟨_, rfl⟩
  rw [← htx] at cr ⊢
  refine callI hC cr ?_
  cbv
  obtain ⟨rb, hrb⟩ : ∃ b, b = recordRight n x := ⟨_, rfl⟩
  rw [← hrb] at crr hg
  have bad : (ok && rb && decide (n = seq)) = false → M Rcd.row Q1 = M Rcd.row Q1 ∧ Q1.map Rcd.row = zs ∧ Q2 = f := fun hb => ⟨rfl, stop fun hh => by rw [hg] at hb; rw [hh.2] at hb; cases hb⟩
  cases ok <;> cbv
  · obtain ⟨_, e1, e2⟩ := bad rfl
    rw [e1, e2] at hr
    refine hK _ _ ?_
    cbv
    exact hr.symm
  refine brkI (fun h4 => ?_) (fun h4 => ?_) <;> try cbv
  rotate_left
  · rw [decide_eq_false (eqF hF h4), Bool.and_false] at bad
    obtain ⟨_, e1, e2⟩ := bad rfl
    rw [e1, e2] at hr
    refine hK _ _ ?_
    cbv
    exact hr.symm
  have h4 := eqT hF h4
  refine callB hC crr (fun hb => ?_) (fun hb => ?_) <;> try cbv
  rotate_left
  · rw [hb] at bad
    obtain ⟨_, e1, e2⟩ := bad rfl
    rw [e1, e2] at hr
    refine hK _ _ ?_
    cbv
    exact hr.symm
  have gd : good (TT f) seq = true := by rw [← hg, hb, decide_eq_true h4]; rfl
  obtain ⟨_, y2, y3⟩ := hy gd
  obtain ⟨f1, f2, f3, f4⟩ := hfit f seq hfl gd
  obtain ⟨_, _, _, g1, g2⟩ := good_text gd
  obtain ⟨k, rfl⟩ : ∃ k', k = k' + 1 := ⟨k - 1, by omega⟩
  have hyes := logGo_yes (H := H) (k := k) (f := f) (seq := seq) (by rw [← hnH]; exact hfl) (by rw [eT]; exact gd)
  rw [eT] at hyes
  rw [hyes] at hQ
  obtain ⟨ew, hew⟩ : ∃ ew : Nat, (hdW (TT f)).2.1 = Int.ofNat ew := ⟨_, (Int.toNat_of_nonneg f4).symm⟩
  have hsc : sect (TT f) = (ew + 4 + 63) / 64 := by rw [sect, hew]; ((try simp only [Int.ofNat_eq_natCast] at *); omega)
  have y3 : en = Int.ofNat (ew + 4) := by rw [y3, hew]; rfl
  have cso := sectorsOf_ok (ew + 4) (by ((try simp only [Int.ofNat_eq_natCast] at *); omega))
  rw [← hsc] at cso
  obtain ⟨sc, hsc2⟩ : ∃ s, s = sect (TT f) := ⟨_, rfl⟩
  rw [← hsc2] at cso f1 f2 hQ
  refine brT (lenOkIs hF (by
    rw [show pLlen zs = Int.ofNat acc.length from (llenIs hF _).trans (by rw [hzl]; rfl), show pLlen [[Y.sc (.int .i64 n), Y.sc (.string x)]] = 1 from (llenIs hF _).trans rfl]
    have e5 : pIadd (Int.ofNat acc.length) 1 = Int.ofNat acc.length + 1 := by
      have : prims.iadd (Int.ofNat acc.length) 1 = Int.ofNat acc.length + 1 := rfl
      rw [hF] at this; exact this
    rw [e5]; ((try simp only [Int.ofNat_eq_natCast] at *); omega))) ?_
  try cbv
  rw [y3]
  refine callI hC cso ?_
  cbv
  conv => arg 1; cbv
  have e1 : pAdd .i64 seq 1 = seq + 1 := addIs hF (by omega) (by omega)
  have e2 : pLapp zs [[.sc (.int .i64 n), .sc (.string x)]] = (acc ++ [(⟨seq, (hdW (TT f)).1⟩ : Rcd)]).map Rcd.row := by
    have : pLapp zs [[.sc (.int .i64 n), .sc (.string x)]] = zs ++ [[.sc (.int .i64 n), .sc (.string x)]] := lappIs hF _ _
    rw [this, hz, List.map_append, h4, y2]; rfl
  have e3 : pAdd .i64 (Int.ofNat f) (Int.ofNat sc) = Int.ofNat (f + sc) := addNIs hF (by omega)
  rw [e1, e2, e3]
  exact ih (k, f + sc, seq + 1, _) _ ⟨f2, by dsimp only; omega, by dsimp only; omega, by dsimp only; omega, _, rfl, by rw [List.length_append]; simp only [List.length_cons, List.length_nil]; omega, by rw [hQ, List.append_assoc]; rfl⟩ (by dsimp only; omega) rfl
end Go.Proofs.Ytngnflfjacappaa
