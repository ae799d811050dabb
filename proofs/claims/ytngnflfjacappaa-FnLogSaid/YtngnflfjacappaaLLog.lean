/- Functions of the program, each with what it returns, run by the evaluator; the conditions stand in the theorems. -/
import Derived.Test.YtngnflfjacappaaLLogP
namespace Go.Proofs.Ytngnflfjacappaa
open Go Go.Proofs.YtngnflfjacappaaW Go.Proofs
set_option linter.unusedVariables false
set_option linter.unusedSimpArgs false
set_option maxRecDepth 100000
set_option maxHeartbeats 8000000
theorem flushed_right {d : Dsk} (h : diskRight d = true) : diskRight ⟨hasD d, []⟩ = true := by
  have h1 := diskRight_lens h
  have h2 : (hasD d).length = d.secs.length := hasD_len d
  have h3 : allTo (secAt (hasD d)) (hasD d).length = true := allTo_iff.2 fun i hi => by
    rw [secAt, getD_at hi]; exact decide_eq_true (hasD_64 h _ (List.getElem_mem _))
  rw [diskRight]
  rw [h3, h2, decide_eq_true h1.1]
  rfl
abbrev logRes (l : List Rcd) (n : Int) : Res := ⟨.tup [(false, [.own 2 (l.map Rcd.row)]), (false, [.y (yN n)])], []⟩
theorem sLog_ok (d : Dsk) (f0 : Nat) (seq0 : Int) (hd : diskRight d = true) (hf0 : f0 ≤ d.secs.length) (hq0 : 1 ≤ seq0 ∧ seq0 ≤ 1000000000) :
    CallOK Try.prog 44 [.agg [.y (.sl 1 (d.secs.map rowS)), .y (.sl 2 (d.cache.map Wr.row))], aN (Int.ofNat f0), aN seq0] (logRes (logGo (hasD d) 701 f0 seq0).1 (Int.ofNat (logGo (hasD d) 701 f0 seq0).2)) := by
  have c1 := l07Flush_ok d [] true hd (by simp)
  have e : ∀ n, putsTo d (keepAt true []) n = putsTo d (fun _ => true) n := fun n => putsTo_congr n fun i hi => rfl
  rw [e, List.map_nil] at c1
  rw [show putsTo d (fun _ => true) d.cache.length = hasD d from rfl] at c1
  have h64 := hasD_64 hd
  have hlen := hasD_len d
  have h700 := (diskRight_lens hd).1
  have c2 : ∀ f : Nat, f ≤ 1000000000000 → CallOK Try.prog 39 [.agg [.y (.sl 1 ((hasD d).map rowS)), .y (.sl 2 [])], aN (Int.ofNat f), aN 100] (St ((joinE ((hasD d).drop f)).extract 0 6400)) := fun f hf => by
    have := l07Text_ok ⟨hasD d, []⟩ f 100 (flushed_right hd) hf (by decide)
    rw [show secsAt ⟨hasD d, []⟩ f 100 = ((hasD d).drop f).take 100 from rfl, join_take fun u hu => h64 u (List.mem_of_mem_drop hu)] at this
    exact this
  have c3 : ∀ (f : Nat) (seq : Int), ∃ n x ok e, CallOK Try.prog 63 [aS ((joinE ((hasD d).drop f)).extract 0 6400), aB8 76] (rdRes n x e ok) ∧
      (ok && recordRight n x && decide (n = seq)) = good (joinE ((hasD d).drop f)) seq ∧ (good (joinE ((hasD d).drop f)) seq = true → n = seq ∧ x = (hdW (joinE ((hasD d).drop f))).1 ∧ e = (hdW (joinE ((hasD d).drop f))).2.1 + 4) := fun f seq => by
    obtain ⟨g1, g2⟩ := good_same (joinE ((hasD d).drop f)) seq
    obtain ⟨n, x, hc, hx⟩ := sRead_ok ((joinE ((hasD d).drop f)).extract 0 6400) (by rw [ByteArray.size_extract]; omega)
    refine ⟨n, x, _, _, hc, ?_, fun hg => ?_⟩
    · rw [← g1, good]
      cases ho : hdOk ((joinE ((hasD d).drop f)).extract 0 6400) with
      | false => rfl
      | true => obtain ⟨a, b⟩ := hx ho; rw [a, b]
    · rw [← g1] at hg
      obtain ⟨a, b, c, _⟩ := good_text hg
      obtain ⟨p, q⟩ := hx a
      obtain ⟨r, s⟩ := g2 (by rw [← g1]; exact hg)
      exact ⟨p.trans c, by rw [q, s], by rw [a, s]; rfl⟩
  obtain ⟨H, hH⟩ : ∃ H, H = hasD d := ⟨_, rfl⟩
  rw [← hH] at c1 h64 hlen c2 c3
  rw [← hH]
  have hfit := fun (f : Nat) (seq : Int) => sect_fit h64 (f := f) (seq := seq)
  obtain ⟨Q, hQ⟩ : ∃ Q, Q = logGo H 701 f0 seq0 := ⟨_, rfl⟩
  rw [← hQ]
  obtain ⟨Q1, Q2⟩ := Q
  dsimp only
  obtain ⟨TT, hTT⟩ : ∃ TT : Nat → ByteArray, TT = fun f => joinE (H.drop f) := ⟨_, rfl⟩
  obtain ⟨PP, hPP⟩ : ∃ PP : Nat → ByteArray, PP = fun f => (joinE (H.drop f)).extract 0 6400 := ⟨_, rfl⟩
  have eT : ∀ f, joinE (H.drop f) = TT f := fun f => by rw [hTT]
  have eP : ∀ f, (joinE (H.drop f)).extract 0 6400 = PP f := fun f => by rw [hPP]
  simp only [eP] at c2 c3
  simp only [eT] at c3 hfit
  obtain ⟨M, hM⟩ := mapEx
  try simp only [hM]
  refine go Try.func44 rfl rfl rfl rfl fun pAdd pSub pMul pQuo pRem pAnd pOr pXor pAndNot pShl pShr pNeg pCompl pConv pLt pLe pEq pSlt pSle pSeq pCat pCatOk pSlen pSsub pSat pIadd pIsub pBnot pBeq pImin pImax pLlen pLsub pLapp pLset pLcopy pLenOk pBytes pRep hF Ca hC r hr => ?_
  cbv
  refine callI hC (by have hh := c1; (try simp only [hM, List.map_nil] at hh); exact hh) ?_
  cbv
  have lH : pLlen (M rowS H) = Int.ofNat H.length := (llenIs hF _).trans (by rw [← hM, List.length_map]; rfl)
  obtain ⟨nH, hnH⟩ : ∃ n, n = H.length := ⟨_, rfl⟩
  rw [← hnH] at lH hlen hfit
  rw [← hlen] at h700 hf0
  refine loop_u (α := Nat × Nat × Int × List (List Y)) (fun z st => ((st.n 1 (Int.ofNat z.2.1)).n 2 z.2.2.1).ob 8001 (.ar 2 z.2.2.2)) (fun z => z.2.1 ≤ nH ∧ nH ≤ z.2.1 + z.1 ∧ 1 ≤ z.2.2.1 ∧ z.2.2.1 ≤ 1000000001 ∧ ∃ acc : List Rcd, z.2.2.2 = acc.map Rcd.row ∧ acc.length ≤ z.2.1 ∧ (Q1, Q2) = (acc ++ (logGo H z.1 z.2.1 z.2.2.1).1, (logGo H z.1 z.2.1 z.2.2.1).2)) (fun z => nH - z.2.1) (701, f0, seq0, []) rfl ⟨hf0, by dsimp only; omega, by dsimp only; omega, by dsimp only; omega, [], rfl, Nat.zero_le _, by dsimp only; rw [hQ]; rfl⟩ (fun K' hK I z hi ih => ?_)
  obtain ⟨k, f, seq, zs⟩ := z
  obtain ⟨hf, hk, hq1, hq2, acc, hz, hal, hQ⟩ := hi
  dsimp only at hf hk hq1 hq2 hz hal hQ
  have hzl : zs.length = acc.length := by rw [hz, List.length_map]
  have stop : ¬ (f < nH ∧ good (TT f) seq = true) → Q1.map Rcd.row = zs ∧ Q2 = f := fun h => by
    have := logGo_no (H := H) (k := k) (f := f) (seq := seq) (by rw [← hnH, eT]; exact h)
    rw [this] at hQ
    simp only [Prod.mk.injEq, List.append_nil] at hQ
    rw [hQ.1, hQ.2, hz]
    exact ⟨rfl, rfl⟩
  cbv
  rw [lH]
  refine brkI (fun h => ?_) (fun h => ?_) <;> try cbv
  rotate_left
  · have h := ltF hF h
    obtain ⟨e1, e2⟩ := stop fun hh => by ((try simp only [Int.ofNat_eq_natCast] at *); omega)
    rw [e1, e2] at hr
    refine hK _ _ ?_
    cbv
    exact hr.symm
  have h := ltT hF h
  have hfl : f < nH := by ((try simp only [Int.ofNat_eq_natCast] at *); omega)
  obtain ⟨n, x, ok, en, cr, hg, hy⟩ := c3 f seq
  refine callS hC (by have hh := c2 f (by omega); (try simp only [hM] at hh); exact hh) (fun tx htx => ?_)
  cbv
  rw [htx]
  refine callI hC cr ?_
  cbv
  have crr := sRecordRight_ok n x
  obtain ⟨rb, hrb⟩ : ∃ b, b = recordRight n x := ⟨_, rfl⟩
  rw [← hrb] at crr hg
  have bad : (ok && rb && decide (n = seq)) = false → M Rcd.row Q1 = M Rcd.row Q1 ∧ Q1.map Rcd.row = zs ∧ Q2 = f := fun hb => ⟨rfl, stop fun hh => by rw [hg] at hb; rw [hh.2] at hb; cases hb⟩
  cases ok <;> cbv
  · obtain ⟨_, e1, e2⟩ := bad rfl
    rw [e1, e2] at hr
    refine hK _ _ ?_
    cbv
    exact hr.symm
  refine callB hC crr (fun hb => ?_) (fun hb => ?_) <;> try cbv
  rotate_left
  · rw [hb] at bad
    obtain ⟨_, e1, e2⟩ := bad rfl
    rw [e1, e2] at hr
    refine hK _ _ ?_
    cbv
    exact hr.symm
  refine brkI (fun h4 => ?_) (fun h4 => ?_) <;> try cbv
  rotate_left
  · rw [decide_eq_false (eqF hF h4), Bool.and_false] at bad
    obtain ⟨_, e1, e2⟩ := bad rfl
    rw [e1, e2] at hr
    refine hK _ _ ?_
    cbv
    exact hr.symm
  have h4 := eqT hF h4
  have gd : good (TT f) seq = true := by rw [← hg, hb, decide_eq_true h4]; rfl
  obtain ⟨_, y2, y3⟩ := hy gd
  obtain ⟨f1, f2, f3, f4⟩ := hfit f seq hfl gd
  obtain ⟨_, _, _, g1, g2⟩ := good_text gd
  obtain ⟨k, rfl⟩ : ∃ k', k = k' + 1 := ⟨k - 1, by omega⟩
  have hyes := logGo_yes (H := H) (k := k) (f := f) (seq := seq) (by rw [← hnH]; exact hfl) (by rw [eT]; exact gd)
  rw [eT] at hyes
  rw [hyes] at hQ
  obtain ⟨ew, hew⟩ : ∃ ew : Nat, (hdW (TT f)).2.1 = Int.ofNat ew := ⟨_, (Int.toNat_of_nonneg f4).symm⟩
  have hsc : sect (TT f) = (ew + 67) / 64 := by rw [sect, hew]; ((try simp only [Int.ofNat_eq_natCast] at *); omega)
  refine brT (lenOkIs hF (by
    rw [show pLlen zs = Int.ofNat acc.length from (llenIs hF _).trans (by rw [hzl]; rfl), show pLlen [[Y.sc (.int .i64 n), Y.sc (.string x)]] = 1 from (llenIs hF _).trans rfl]
    have e5 : pIadd (Int.ofNat acc.length) 1 = Int.ofNat acc.length + 1 := by
      have : prims.iadd (Int.ofNat acc.length) 1 = Int.ofNat acc.length + 1 := rfl
      rw [hF] at this; exact this
    rw [e5]; ((try simp only [Int.ofNat_eq_natCast] at *); omega))) ?_
  try cbv
  refine brF (mkNe hF (by decide)) ?_
  try cbv
  conv => arg 1; cbv
  have e1 : pAdd .i64 seq 1 = seq + 1 := addIs hF (by omega) (by omega)
  have e2 : pLapp zs [[.sc (.int .i64 n), .sc (.string x)]] = (acc ++ [(⟨seq, (hdW (TT f)).1⟩ : Rcd)]).map Rcd.row := by
    have : pLapp zs [[.sc (.int .i64 n), .sc (.string x)]] = zs ++ [[.sc (.int .i64 n), .sc (.string x)]] := lappIs hF _ _
    rw [this, hz, List.map_append, h4, y2]; rfl
  have e3 : pAdd .i64 (Int.ofNat f) (pQuo .i64 (pSub .i64 (pAdd .i64 en 64) 1) 64) = Int.ofNat (f + sect (TT f)) := by
    rw [y3, hew]
    have a1 : pAdd .i64 (Int.ofNat ew + 4) 64 = Int.ofNat (ew + 68) := (addIs hF (by ((try simp only [Int.ofNat_eq_natCast] at *); omega)) (by ((try simp only [Int.ofNat_eq_natCast] at *); omega))).trans (by ((try simp only [Int.ofNat_eq_natCast] at *); omega))
    have a2 : pSub .i64 (Int.ofNat (ew + 68)) 1 = Int.ofNat (ew + 67) := (subIs hF (by ((try simp only [Int.ofNat_eq_natCast] at *); omega)) (by ((try simp only [Int.ofNat_eq_natCast] at *); omega))).trans (by ((try simp only [Int.ofNat_eq_natCast] at *); omega))
    have a3 : pQuo .i64 (Int.ofNat (ew + 67)) 64 = Int.ofNat ((ew + 67) / 64) := by
      have : prims.quo .i64 (Int.ofNat (ew + 67)) 64 = Int.ofNat ((ew + 67) / 64) := by
        show IntKind.i64.wrap (Int.tdiv _ _) = _
        rw [Int.tdiv_eq_ediv_of_nonneg (show 0 ≤ Int.ofNat (ew + 67) from Int.natCast_nonneg _)]
        exact (wrap_i64 (by ((try simp only [Int.ofNat_eq_natCast] at *); omega)) (by ((try simp only [Int.ofNat_eq_natCast] at *); omega))).trans (by ((try simp only [Int.ofNat_eq_natCast] at *); omega))
      rw [hF] at this; exact this
    rw [a1, a2, a3, hsc]
    exact addNIs hF (by omega)
  rw [e1, e2, e3]
  exact ih (k, f + sect (TT f), seq + 1, _) _ ⟨f2, by dsimp only; omega, by dsimp only; omega, by dsimp only; omega, _, rfl, by rw [List.length_append]; simp only [List.length_cons, List.length_nil]; omega, by rw [hQ, List.append_assoc]; rfl⟩ (by dsimp only; omega) rfl
end Go.Proofs.Ytngnflfjacappaa
