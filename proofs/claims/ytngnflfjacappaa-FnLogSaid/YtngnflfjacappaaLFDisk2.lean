/- Functions of the program, each with what it returns, run by the evaluator; the conditions stand in the theorems. -/
import Derived.Test.YtngnflfjacappaaLSrcQ
import Derived.Test.YtngnflfjacappaaLNew
import Derived.Test.YtngnflfjacappaaLFDisk
import Derived.Test.YtngnflfjacappaaLFlat
namespace Go.Proofs.Ytngnflfjacappaa
open Go Go.Proofs.YtngnflfjacappaaW Go.Proofs
set_option linter.unusedVariables false
set_option linter.unusedSimpArgs false
set_option maxRecDepth 100000
set_option maxHeartbeats 8000000
/-! A drawn disk. -/
structure SmallD (d : Dsk) : Prop where
  bd : Dsk.Bd 1048576 d
  secs : d.secs.length ≤ 1000
  cache : d.cache.length ≤ 1000
theorem write_q {d : Dsk} (hd : SmallD d) {a : Int} (ha : I64 a) (t : ByteArray) : CallQ Try.prog 7 [.agg [.y (.sl 1 (d.secs.map rowS)), .y (.sl 2 (d.cache.map Wr.row))], aN a, aS t] (fun r => ∃ (D : Dsk) (c : Int), (c = 0 → SmallD D ∧ D.secs.length ≤ d.secs.length ∧ D.cache.length ≤ 400) ∧ r = ⟨.agg [.own 1 (D.secs.map rowS), .own 2 (D.cache.map Wr.row), .y (yS ⟨⟨[]⟩⟩), .y (yN c)], []⟩) := by
  refine CallOK.q (sDiskWrite_ok d a t hd.bd ha) ⟨dwDisk d a t, dwCode d a t, fun h => ?_, rfl⟩
  obtain ⟨A, rfl, w⟩ := wrote_of h
  have hl := diskRight_lens w.right
  exact ⟨⟨dwDisk_bd _ t hd.bd, by rw [w.secs]; omega, by rw [w.len]; have := w.room; omega⟩, by rw [w.secs]; omega, by rw [w.len]; exact w.room⟩
theorem flush_q {d : Dsk} (hd : SmallD d) : CallQ Try.prog 19 [.agg [.y (.sl 1 (d.secs.map rowS)), .y (.sl 2 (d.cache.map Wr.row))]] (fun r => ∃ D : Dsk, (SmallD D ∧ D.secs.length ≤ d.secs.length ∧ D.cache.length ≤ d.cache.length) ∧ r = ⟨.agg [.own 1 (D.secs.map rowS), .own 2 (D.cache.map Wr.row)], []⟩) := by
  refine CallOK.q (sFlush_ok d hd.bd) ⟨flush d, ?_, rfl⟩
  rw [flush]
  split
  · exact ⟨⟨puts_bd hd.bd _, by rw [putsTo_len]; exact hd.secs, by simp⟩, by rw [putsTo_len]; exact Nat.le_refl _, Nat.zero_le _⟩
  · exact ⟨hd, Nat.le_refl _, Nat.le_refl _⟩
theorem new_q {q : Int} (h : I64 q) : CallQ Try.prog 53 [aN q] (fun r => ∃ D : Dsk, (SmallD D ∧ D.secs.length ≤ 700 ∧ D.cache.length ≤ 400) ∧ r = ⟨.agg [.own 1 (D.secs.map rowS), .own 2 (D.cache.map Wr.row)], []⟩) := by
  have e : (diskNew q).secs.length ≤ 700 ∧ (diskNew q).cache.length ≤ 400 := by
    rw [diskNew]; split
    · refine ⟨?_, Nat.zero_le _⟩
      show (List.replicate _ _).length ≤ _
      rw [List.length_replicate]; omega
    · exact ⟨Nat.zero_le _, Nat.zero_le _⟩
  exact CallOK.q (sDiskNew_ok q h) ⟨diskNew q, ⟨⟨diskNew_bd q, by omega, by omega⟩, e⟩, rfl⟩
theorem smallD_more {d : Dsk} (hd : SmallD d) (s : List ByteArray) (c : List Wr) (hs : ∀ u ∈ s, u.size ≤ 64) (hc : ∀ u ∈ c, u.text.size ≤ 1048576) (h1 : d.secs.length + s.length ≤ 1000) (h2 : d.cache.length + c.length ≤ 1000) : SmallD ⟨d.secs ++ s, d.cache ++ c⟩ := by
  refine ⟨⟨⟨by rw [List.length_append]; omega, fun u hu => ?_⟩, ⟨by rw [List.length_append]; omega, fun u hu => ?_⟩, trivial⟩, by rw [List.length_append]; exact h1, by rw [List.length_append]; exact h2⟩
  · rcases List.mem_append.1 hu with h | h
    · exact hd.bd.1.2 u h
    · exact Nat.le_trans (hs u h) (by decide)
  · rcases List.mem_append.1 hu with h | h
    · exact hd.bd.2.1.2 u h
    · exact ⟨hc u h, trivial⟩
theorem disk_q {xs : List (List Y)} {a : Int} (h : SrcAt xs a) (m z : Int) :
    CallQ Try.prog 23 [.io (srcC xs a m z)] (fun r => ∃ (d : Dsk) (a m : Int), SmallD d ∧ SrcAt xs a ∧ r = ⟨.agg [.own 1 (d.secs.map rowS), .own 2 (d.cache.map Wr.row)], [srcC xs a m z]⟩) := by
  obtain ⟨M, hM⟩ := mapEx
  try simp only [hM]
  refine goQ Try.func23 rfl rfl rfl rfl fun pAdd pSub pMul pQuo pRem pAnd pOr pXor pAndNot pShl pShr pNeg pCompl pConv pLt pLe pEq pSlt pSle pSeq pCat pCatOk pSlen pSsub pSat pIadd pIsub pBnot pBeq pImin pImax pLlen pLsub pLapp pLset pLcopy pLenOk pBytes pRep hF Ca hC Q1 hQ => ?_
  cbv
  have fD := flatR_D
  have fDO := flatR_DO
  have cW := @write_q
  have cF := @flush_q
  have cN := @new_q
  simp only [hM] at fD fDO cW cF cN
  refine callQ hC (n_q h m z 6 (by decide)) ?_
  rintro r ⟨q, a1, m1, h2, h3, h4, rfl⟩
  cbv
  refine callQ hC (cN ⟨by omega, by omega⟩) ?_
  rintro r ⟨d0, hd0, rfl⟩
  cbv
  refine ⟨fD d0, ?_⟩
  refine callQ hC (n_q h4 m1 z 4 (by decide)) ?_
  rintro r ⟨q2, a2, m2, g2, g3, h4, rfl⟩
  cbv
  refine loop_u (α := Dsk × Int × Int × Int) (fun (d, k, a, m) st => (((st.n 4 k).ob 0 (.bx [.y (.sl 1 xs), .y (yN a), .y (.sc (.int .u64 m)), .y (yN z)])).ob 3001 (.ar 1 (M rowS d.secs))).ob 3002 (.ar 2 (M Wr.row d.cache))) (fun s => SmallD s.1 ∧ 0 ≤ s.2.1 ∧ s.2.1 ≤ 4 ∧ SrcAt xs s.2.2.1 ∧ s.1.secs.length ≤ 700 ∧ s.1.cache.length ≤ 400) (fun s => s.2.1.toNat) (d0, q2, a2, m2) rfl ⟨hd0.1, g2, by dsimp only; omega, h4, hd0.2⟩ (fun K' hK I s hi ih => ?_)
  obtain ⟨d, k, a, m⟩ := s
  obtain ⟨hd, hk, hk4, ha, dS, dC⟩ := hi
  dsimp only at hd hk hk4 ha dS dC
  cbv
  refine brkI (fun h => ?_) (fun h => ?_) <;> try cbv
  · have h := ltT hF h
    have ek : pSub .i64 k 1 = k - 1 := subIs hF (by omega) (by omega)
    repeat' (first
      | (refine And.intro (fDO _ _ _) ?_; try cbv)
      | (refine And.intro ?_ ?_ <;> try cbv)
      | (refine callQ hC (n_q (by assumption) _ z _ (by decide)) ?_; rintro r ⟨q, a1, m1, h2, h3, h4, rfl⟩; try cbv)
      | (refine callQ hC (bytes_q (by assumption) _ z _ (by omega) (by omega)) ?_; rintro r ⟨t, a1, m1, h2, h4, rfl⟩; try cbv)
      | (refine callQ hC (cW hd ⟨by omega, by omega⟩ _) ?_; rintro r ⟨D, c, hD, rfl⟩; try cbv))
    all_goals (refine brkI (fun hc => ?_) (fun hc => ?_) <;> try cbv)
    all_goals (try (have hD := hD (eqT hF hc); have dS := Nat.le_trans hD.2.1 dS; have dC := hD.2.2; have hd := hD.1))
    all_goals (refine callQ hC (one_q (by assumption) _ z 3 (by decide)) ?_; rintro r ⟨b, a1, m1, h4, rfl⟩; cbv; cases b <;> try cbv)
    all_goals (try (refine callQ hC (cF hd) ?_; rintro r ⟨D', hf, rfl⟩; cbv; refine And.intro (fD _) ?_; try cbv; have dS := Nat.le_trans hf.2.1 dS; have dC := Nat.le_trans hf.2.2 dC; have hd := hf.1))
    all_goals (conv => arg 1; cbv)
    all_goals rw [ek]
    all_goals exact ih (_, k - 1, _, _) _ ⟨hd, by dsimp only; omega, by dsimp only; omega, by assumption, dS, dC⟩ (by dsimp only; omega) rfl
  · refine hK _ _ ?_
    cbv
    refine callQ hC (one_q ha m z 20 (by decide)) ?_
    rintro r ⟨b, a1, m1, ha, rfl⟩
    cbv
    cases b <;> try cbv
    · exact hQ _ ⟨d, _, _, hd, ha, rfl⟩
    refine callQ hC (n_q ha m1 z 3 (by decide)) ?_
    rintro r ⟨q, a1, m1, g0, g1, ha, rfl⟩
    cbv
    have e1 : ∀ (s : List ByteArray) (t : ByteArray), pLapp (M rowS s) [[Y.sc (.string t)]] = M rowS (s ++ [t]) := fun s t => by
      have : prims.lapp (s.map rowS) [rowS t] = (s ++ [t]).map rowS := by rw [List.map_append]; rfl
      rw [hF] at this; simp only [hM] at this; exact this
    have e2 : ∀ (s : List Wr) (x : Int) (t : ByteArray), pLapp (M Wr.row s) [[Y.sc (.int .i64 x), Y.sc (.string t)]] = M Wr.row (s ++ [(⟨x, t⟩ : Wr)]) := fun s x t => by
      have : prims.lapp (s.map Wr.row) [Wr.row ⟨x, t⟩] = (s ++ [(⟨x, t⟩ : Wr)]).map Wr.row := by rw [List.map_append]; rfl
      rw [hF] at this; simp only [hM] at this; exact this
    have ln : ∀ {α : Type} (f : α → List Y) (l : List α), pLlen (M f l) = Int.ofNat l.length := fun f l => (llenIs hF (M f l)).trans (by rw [← hM, List.length_map]; rfl)
    have one : ∀ r : List Y, pLlen [r] = 1 := fun r => (llenIs hF _).trans rfl
    have ia : ∀ n : Nat, pIadd (Int.ofNat n) 1 = Int.ofNat n + 1 := fun n => by
      have : prims.iadd (Int.ofNat n) 1 = Int.ofNat n + 1 := rfl
      rw [hF] at this; exact this
    have more1 : ∀ (d : Dsk) (s : ByteArray), SmallD d → s.size ≤ 64 → d.secs.length ≤ 999 → SmallD ⟨d.secs ++ [s], d.cache⟩ := fun d s h h1 h2 => by
      have := smallD_more h [s] [] (fun u hu => by rw [List.mem_singleton.1 hu]; exact h1) (fun u hu => absurd hu (by simp)) (by simp; omega) (by simpa using h.cache)
      rw [List.append_nil] at this; exact this
    have more2 : ∀ (d : Dsk) (w : Wr), SmallD d → w.text.size ≤ 1048576 → d.cache.length ≤ 999 → SmallD ⟨d.secs, d.cache ++ [w]⟩ := fun d w h h1 h2 => by
      have := smallD_more h [] [w] (fun u hu => absurd hu (by simp)) (fun u hu => by rw [List.mem_singleton.1 hu]; exact h1) (by simpa using h.secs) (by simp; omega)
      rw [List.append_nil] at this; exact this
    refine brkI (fun hq => ?_) (fun hq => ?_) <;> try cbv
    · refine brT (lenOkIs hF (by rw [one, ln, ia]; have := hd.secs; ((try simp only [Int.ofNat_eq_natCast] at *); omega))) ?_
      try cbv
      rw [e1]
      exact hQ _ ⟨⟨d.secs ++ [_], d.cache⟩, _, _, more1 d _ hd (by decide) (by have := dS; omega), ha, rfl⟩
    refine brkI (fun hq => ?_) (fun hq => ?_) <;> try cbv
    · refine brT (mkLe hF (by decide)) ?_
      try cbv
      refine brT (leSelf hF _) ?_
      try cbv
      refine brT (lenOkIs hF (by decide)) ?_
      try cbv
      have er : pRep 64 [Y.sc (Value.int IntKind.u8 0)] = bytesL (List.replicate 64 0) := by
        have : pRep (Int.ofNat 64) [Y.sc (Value.int IntKind.u8 0)] = List.replicate 64 [Y.sc (Value.int IntKind.u8 0)] := repIs hF 64 _
        refine this.trans ?_
        simp [bytesL]
      obtain ⟨zb, hzb⟩ : ∃ b, b = zerosB 64 := ⟨_, rfl⟩
      refine ⟨zb, ⟨by rw [er, hzb]; rfl⟩, ?_⟩
      cbv
      refine brT (lenOkIs hF (by rw [one, ln, ia]; have := hd.cache; ((try simp only [Int.ofNat_eq_natCast] at *); omega))) ?_
      try cbv
      rw [e2]
      have hzs : zb.size ≤ 64 := by rw [hzb]; exact Nat.le_of_eq (by simp [zerosB, ByteArray.size])
      exact hQ _ ⟨⟨d.secs, d.cache ++ [_]⟩, _, _, more2 d _ hd (by show zb.size ≤ _; omega) (by have := dC; omega), ha, rfl⟩
    · refine loop_u (α := Dsk × Int × Int) (fun (d, a, m) st => ((st.ob 0 (.bx [.y (.sl 1 xs), .y (yN a), .y (.sc (.int .u64 m)), .y (yN z)])).ob 3001 (.ar 1 (M rowS d.secs))).ob 3002 (.ar 2 (M Wr.row d.cache))) (fun s => SmallD s.1 ∧ SrcAt xs s.2.1) (fun s => 1000 - s.1.cache.length) (d, a1, m1) rfl ⟨hd, ha⟩ (fun K'' hK I s hi ih => ?_)
      obtain ⟨d, a, m⟩ := s
      obtain ⟨hd, ha⟩ := hi
      dsimp only at hd ha
      cbv
      rw [ln]
      refine brkI (fun h0 => ?_) (fun h0 => ?_) <;> try cbv
      · have h0 := ltT hF h0
        have h0 : 0 < d.secs.length := by ((try simp only [Int.ofNat_eq_natCast] at *); omega)
        repeat' (first
          | (refine And.intro ?_ ?_ <;> try cbv)
          | (refine callQ hC (n_q (by assumption) _ z _ (by decide)) ?_; rintro r ⟨q, a1, m1, h2, h3, h4, rfl⟩; try cbv))
        all_goals (refine brkI (fun h1 => ?_) (fun h1 => ?_) <;> try cbv)
        all_goals (first
          | (refine hK _ _ ?_; cbv; exact hQ _ ⟨d, _, _, hd, by assumption, rfl⟩)
          | skip)
        all_goals (
          have e9 : pAdd .i64 399 q = 399 + q := addIs hF (by omega) (by omega)
          have h1 := ltT hF h1
          rw [e9, ln] at h1
          have hc : d.cache.length ≤ 400 := by ((try simp only [Int.ofNat_eq_natCast] at *); omega)
          obtain ⟨u, hu⟩ : ∃ u, u = d.secs[0] := ⟨_, rfl⟩
          have hus : u.size ≤ 1048576 := by rw [hu]; exact hd.bd.1.2 _ (List.getElem_mem _)
          have hget : LGet (M rowS d.secs) 0 [Y.sc (.string u)] := ⟨by decide, by rw [← hM, List.getElem?_map, show (0 : Int).toNat = 0 from rfl, List.getElem?_eq_getElem h0, ← hu]; rfl⟩
          refine brT (mkLe hF (by decide)) ?_
          try cbv
          refine brT (mkLt hF (by rw [ln]; ((try simp only [Int.ofNat_eq_natCast] at *); omega))) ?_
          try cbv
          refine ⟨_, hget, ?_⟩
          cbv
          refine brT (lenOkIs hF (by rw [one, ln, ia]; ((try simp only [Int.ofNat_eq_natCast] at *); omega))) ?_
          try cbv
          conv => arg 1; cbv
          rw [e2]
          exact ih (⟨d.secs, d.cache ++ [⟨0, u⟩]⟩, _, _) _ ⟨more2 d ⟨0, u⟩ hd hus (by omega), by assumption⟩ (by dsimp only; rw [List.length_append]; show 1000 - (d.cache.length + 1) < _; omega) rfl)
      · refine hK _ _ ?_
        cbv
        exact hQ _ ⟨d, _, _, hd, ha, rfl⟩
end Go.Proofs.Ytngnflfjacappaa
