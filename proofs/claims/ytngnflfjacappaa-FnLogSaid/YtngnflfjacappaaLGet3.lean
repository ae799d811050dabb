/- Functions of the program, each with what it returns, run by the evaluator; the conditions stand in the theorems. -/
import Derived.Test.YtngnflfjacappaaLGet2
namespace Go.Proofs.Ytngnflfjacappaa
open Go Go.Proofs.YtngnflfjacappaaW Go.Proofs
set_option linter.unusedVariables false
set_option linter.unusedSimpArgs false
set_option maxRecDepth 100000
set_option maxHeartbeats 8000000
theorem sGetNum_ok (s : ByteArray) (p : Int) (hl : s.size ≤ maxLen) (hp : I64 p) : CallOK Try.prog 86 [aS s, aN p] (NO (getNum s p)) := by
  rw [maxLen_is] at hl
  obtain ⟨hp1, hp2⟩ := hp
  obtain ⟨q, hq⟩ : ∃ q, q = getNum s p := ⟨_, rfl⟩
  rw [← hq]
  obtain ⟨M, hM⟩ := mapEx
  try simp only [hM]
  refine go Try.func86 rfl rfl rfl rfl fun pAdd pSub pMul pQuo pRem pAnd pOr pXor pAndNot pShl pShr pNeg pCompl pConv pLt pLe pEq pSlt pSle pSeq pCat pCatOk pSlen pSsub pSat pIadd pIsub pBnot pBeq pImin pImax pLlen pLsub pLapp pLset pLcopy pLenOk pBytes pRep hF Ca hC r hr => ?_
  cbv
  have el : pSlen s = Int.ofNat s.size := slenIs hF s
  refine brkI (fun hL => ?_) (fun hL => ?_) <;> try cbv
  · have hL := ltT hF hL
    rw [el] at hL
    exact retNO (v := (0, 0, 2)) hr (hq.trans (by rw [getNum, ite_t (show tooLong s = true from decide_eq_true (by ((try simp only [Int.ofNat_eq_natCast] at *); omega)))]))
  have hL := ltF hF hL
  rw [el] at hL
  have hq : q = numOf s p := hq.trans (by rw [getNum, ite_f (show tooLong s = false from decide_eq_false (by ((try simp only [Int.ofNat_eq_natCast] at *); omega)))])
  refine brkI (fun h => ?_) (fun h => ?_) <;> try cbv
  · exact retNO (v := (0, 0, 1)) hr (hq.trans (by rw [numOf, if_pos (ltT hF h)]))
  · have h0 := ltF hF h
    have hq' : q = numGo s p 10 0 0 := hq.trans (by rw [numOf, if_neg (by omega)])
    refine loop_u (α := Nat × Int) (fun a st => (st.sc 5 (.int .u64 a.2)).n 6 (Int.ofNat a.1))
      (fun a => a.1 ≤ 10 ∧ 0 ≤ a.2 ∧ a.2 < 2 ^ (7 * a.1) ∧ q = numGo s p (10 - a.1) a.2 a.1) (fun a => 10 - a.1) (0, 0) rfl ⟨by omega, by decide, by decide, hq'⟩ (fun K' hK I a hi ih => ?_)
    obtain ⟨i, u⟩ := a
    obtain ⟨hi, hu0, hu1, hqi⟩ := hi
    dsimp only at hi hu0 hu1 hqi
    cbv
    refine brkI (fun h2 => ?_) (fun h2 => ?_) <;> try cbv
    · have hi9 : i < 10 := by have := ltT hF h2; ((try simp only [Int.ofNat_eq_natCast] at *); omega)
      obtain ⟨k, hk⟩ : ∃ k, 10 - i = k + 1 := ⟨10 - i - 1, by omega⟩
      rw [hk] at hqi
      have eS : pSub .i64 (pSlen s) (Int.ofNat i) = Int.ofNat s.size - Int.ofNat i := by rw [el]; exact subIs hF (by ((try simp only [Int.ofNat_eq_natCast] at *); omega)) (by ((try simp only [Int.ofNat_eq_natCast] at *); omega))
      refine brkI (fun h3 => ?_) (fun h3 => ?_) <;> try cbv
      · have h3 := leT hF h3
        rw [eS] at h3
        refine hK _ _ ?_
        cbv
        exact retNO (v := (0, 0, 4)) hr (hqi.trans (numGo_short h3))
      · have h3 := leF hF h3
        rw [eS] at h3
        have h3' : ¬ Int.ofNat s.size - Int.ofNat i ≤ p := by omega
        have eA : pAdd .i64 p (Int.ofNat i) = p + Int.ofNat i := addIs hF (by ((try simp only [Int.ofNat_eq_natCast] at *); omega)) (by ((try simp only [Int.ofNat_eq_natCast] at *); omega))
        obtain ⟨pi, hpi⟩ : ∃ z, z = pAdd .i64 p (Int.ofNat i) := ⟨_, rfl⟩
        have epi : pi = p + Int.ofNat i := hpi.trans eA
        rw [← hpi]
        refine brT (mkLe hF (by ((try simp only [Int.ofNat_eq_natCast] at *); omega))) (brT (mkLt hF (by rw [el]; ((try simp only [Int.ofNat_eq_natCast] at *); omega))) ?_)
        obtain ⟨c, hc⟩ : ∃ c, c = pSat s pi := ⟨_, rfl⟩
        have hc' : at1 s p i = c := by rw [at1, hc, ← epi, hF]
        have hcr := sat_range s (p + Int.ofNat i)
        rw [show prims.sat s (p + Int.ofNat i) = c from hc'] at hcr
        rw [← hc]
        have ec : pConv .u64 c = c := by
          have : prims.conv .u64 c = c := (wrap_u64 _).trans (by omega)
          rw [hF] at this; exact this
        rw [ec]
        have em : pMul .i64 7 (Int.ofNat i) = Int.ofNat (7 * i) := (mulIs hF (by ((try simp only [Int.ofNat_eq_natCast] at *); omega)) (by ((try simp only [Int.ofNat_eq_natCast] at *); omega))).trans (by ((try simp only [Int.ofNat_eq_natCast] at *); omega))
        have ev : pConv .u64 (Int.ofNat (7 * i)) = Int.ofNat (7 * i) := by
          have : prims.conv .u64 (Int.ofNat (7 * i)) = Int.ofNat (7 * i) := (wrap_u64 _).trans (by ((try simp only [Int.ofNat_eq_natCast] at *); omega))
          rw [hF] at this; exact this
        have er : pRem .u64 c 128 = c % 128 := by
          have : prims.rem .u64 c 128 = c % 128 := Int.tmod_eq_emod_of_nonneg hcr.1
          rw [hF] at this; exact this
        obtain ⟨z, hz⟩ : ∃ z, z = pAdd .u64 u (pShl .u64 (c % 128) (Int.ofNat (7 * i))) := ⟨_, rfl⟩
        have hstep : ¬ (i = 9 ∧ 1 < c) → z = u + c % 128 * 2 ^ (7 * i) ∧ 0 ≤ z ∧ z < 2 ^ (7 * (i + 1)) ∧ z < 18446744073709551616 := fun hn => by
          have := num_step hi9 hu0 hu1 hcr.1 hcr.2 hn
          rw [hF] at this
          have t : pAdd .u64 u (pShl .u64 (c % 128) (Int.ofNat (7 * i))) = u + c % 128 * 2 ^ (7 * i) := this.1
          rw [hz, t]
          exact ⟨rfl, this.2⟩
        have e1 : pAdd .i64 (Int.ofNat i) 1 = Int.ofNat (i + 1) := add1Is hF (by omega)
        have syn : i = 9 ∧ 1 < c → q = (0, 0, 3) := fun h => hqi.trans (numGo_nine h3' (by rw [hc']; exact h))
        have fine : ¬ (i = 9 ∧ 1 < c) → q = if c < 128 then (if c = 0 ∧ 0 < i then (0, 0, 3) else (unf z, p + Int.ofNat i + 1, 0)) else numGo s p k z (i + 1) := fun h => by
          rw [hqi, numGo, if_neg h3', hc', if_neg h, (hstep h).1]
        have st2 : ¬ (i = 9 ∧ 1 < c) → 0 ≤ z ∧ z < 2 ^ (7 * (i + 1)) ∧ z < 18446744073709551616 := fun hn => (hstep hn).2
        clear hqi hstep
        have nil : ¬ (i = 9 ∧ 1 < c) → c = 0 → 0 < i → q = (0, 0, 3) := fun h h1 h2 => by rw [fine h, if_pos (by omega), if_pos ⟨h1, h2⟩]
        have full : ¬ (i = 9 ∧ 1 < c) → c < 128 → ¬ (c = 0 ∧ 0 < i) → q = (unf z, p + Int.ofNat i + 1, 0) := fun h h1 h2 => by rw [fine h, if_pos h1, if_neg h2]
        have more : ¬ (i = 9 ∧ 1 < c) → 128 ≤ c → q = numGo s p k z (i + 1) := fun h h1 => by rw [fine h, if_neg (by omega)]
        have eB : pAdd .i64 pi 1 = p + Int.ofNat i + 1 := by rw [epi]; exact addIs hF (by ((try simp only [Int.ofNat_eq_natCast] at *); omega)) (by ((try simp only [Int.ofNat_eq_natCast] at *); omega))
        have eq2 : ¬ (i = 9 ∧ 1 < c) → pConv .i64 (pQuo .u64 z 2) = z / 2 := fun h => by
          have hh := st2 h
          have a1 : prims.quo .u64 z 2 = z / 2 := by
            show IntKind.u64.wrap (Int.tdiv z 2) = _
            rw [wrap_u64, Int.tdiv_eq_ediv_of_nonneg hh.1]; omega
          have a2 : prims.conv .i64 (z / 2) = z / 2 := wrap_i64 (by omega) (by omega)
          rw [hF] at a1 a2
          exact (congrArg (pConv .i64) (show pQuo .u64 z 2 = z / 2 from a1)).trans a2
        have er2 : ¬ (i = 9 ∧ 1 < c) → pRem .u64 z 2 = z % 2 := fun h => by
          have a1 : prims.rem .u64 z 2 = z % 2 := Int.tmod_eq_emod_of_nonneg (st2 h).1
          rw [hF] at a1; exact a1
        have eneg : ¬ (i = 9 ∧ 1 < c) → pSub .i64 (pNeg .i64 (z / 2)) 1 = -(z / 2) - 1 := fun h => by
          have hh := st2 h
          have a1 : prims.neg .i64 (z / 2) = -(z / 2) := (wrap_i64 (n := 0 - z / 2) (by omega) (by omega)).trans (by omega)
          rw [hF] at a1
          rw [show pNeg .i64 (z / 2) = -(z / 2) from a1]
          exact subIs hF (by omega) (by omega)
        have fA : ¬ (i = 9 ∧ 1 < c) → c < 128 → ¬ (c = 0 ∧ 0 < i) → pEq (pRem .u64 z 2) 1 = true → NO (pSub .i64 (pNeg .i64 (pConv .i64 (pQuo .u64 z 2))) 1, pAdd .i64 pi 1, 0) = r := fun h h1 h2 h3 => retNO hr (by
          rw [er2 h] at h3
          have h3 := eqT hF h3
          rw [full h h1 h2, eB, eq2 h, eneg h, unf, if_pos h3])
        have fB : ¬ (i = 9 ∧ 1 < c) → c < 128 → ¬ (c = 0 ∧ 0 < i) → pEq (pRem .u64 z 2) 1 = false → NO (pConv .i64 (pQuo .u64 z 2), pAdd .i64 pi 1, 0) = r := fun h h1 h2 h3 => retNO hr (by
          rw [er2 h] at h3
          have h3 := eqF hF h3
          rw [full h h1 h2, eB, eq2 h, unf, if_neg h3])
        clear fine eneg eq2 er2 full
        have go1 : ¬ (i = 9 ∧ 1 < c) → 128 ≤ c → I ⟨[(0, .c (.y (.sc (.string s)))), (1, .c (.y (.sc (.int .i64 p)))), (4, .c (.pb 4000 0)), (5, .c (.y (.sc (.int .u64 z)))), (6, .c (.y (.sc (.int .i64 (Int.ofNat (i + 1))))))], [(4000, .bx [.y (yN 0), .y (yN 0), .y (yN 0)])]⟩ := fun h hc => by
          refine ih (i + 1, z) _ ⟨hi9, (st2 h).1, (st2 h).2.1, ?_⟩ (by dsimp only; omega) rfl
          rw [more h hc]; congr 1; omega
        refine brkI (fun h9 => ?_) (fun h9 => ?_) <;> try cbv
        · have h9 := eqT hF h9
          refine brkI (fun h10 => ?_) (fun h10 => ?_) <;> try cbv
          · have h10 := ltT hF h10
            refine hK _ _ ?_
            cbv
            exact retNO (v := (0, 0, 3)) hr (syn ⟨by ((try simp only [Int.ofNat_eq_natCast] at *); omega), h10⟩)
          · have h10 := ltF hF h10
            have hn : ¬ (i = 9 ∧ 1 < c) := by omega
            refine brF (mkNe hF (by decide)) ?_
            try cbv
            rw [em, ev]
            refine brF (mkNlt hF (by ((try simp only [Int.ofNat_eq_natCast] at *); omega))) ?_
            try cbv
            rw [er, ← hz]
            repeat' (refine brkI (fun h => ?_) (fun h => ?_) <;> try cbv)
            all_goals first
              | (refine hK _ _ ?_; cbv; rw [← hpi]; first | (refine fA hn ?_ ?_ (by assumption)) | (refine fB hn ?_ ?_ (by assumption)))
              | (refine hK _ _ ?_; cbv; refine retNO (v := (0, 0, 3)) hr (nil hn ?_ ?_))
              | (conv => arg 1; cbv
                 rw [e1]
                 refine go1 hn ?_)
              | skip
            all_goals
              clear hK ih hC more hr fA fB go1 st2
              have lD : ∀ a b, pLt a b = decide (a < b) := ltD hF
              have eD : ∀ a b, pLe a b = decide (a ≤ b) := leD hF
              have qD : ∀ a b, pEq a b = decide (a = b) := eqD hF
              have sD : ∀ a b, pSeq a b = decide (a = b) := seqD hF
              simp only [lD, eD, qD, decide_eq_true_eq, decide_eq_false_iff_not, Int.ofNat_eq_natCast] at *
              clear lD eD qD sD hF
              omega
        · have h9 := eqF hF h9
          have hn : ¬ (i = 9 ∧ 1 < c) := by ((try simp only [Int.ofNat_eq_natCast] at *); omega)
          refine brF (mkNe hF (by decide)) ?_
          try cbv
          rw [em, ev]
          refine brF (mkNlt hF (by ((try simp only [Int.ofNat_eq_natCast] at *); omega))) ?_
          try cbv
          rw [er, ← hz]
          repeat' (refine brkI (fun h => ?_) (fun h => ?_) <;> try cbv)
          all_goals first
            | (refine hK _ _ ?_; cbv; rw [← hpi]; first | (refine fA hn ?_ ?_ (by assumption)) | (refine fB hn ?_ ?_ (by assumption)))
            | (refine hK _ _ ?_; cbv; refine retNO (v := (0, 0, 3)) hr (nil hn ?_ ?_))
            | (conv => arg 1; cbv
               rw [e1]
               refine go1 hn ?_)
            | skip
          all_goals
            clear hK ih hC more hr fA fB go1 st2
            have lD : ∀ a b, pLt a b = decide (a < b) := ltD hF
            have eD : ∀ a b, pLe a b = decide (a ≤ b) := leD hF
            have qD : ∀ a b, pEq a b = decide (a = b) := eqD hF
            have sD : ∀ a b, pSeq a b = decide (a = b) := seqD hF
            simp only [lD, eD, qD, decide_eq_true_eq, decide_eq_false_iff_not, Int.ofNat_eq_natCast] at *
            clear lD eD qD sD hF
            omega
    · have : i = 10 := by have := ltF hF h2; ((try simp only [Int.ofNat_eq_natCast] at *); omega)
      subst this
      refine hK _ _ ?_
      cbv
      exact retNO (v := (0, 0, 3)) hr (hqi.trans rfl)
theorem sGetText_ok (s : ByteArray) (p : Int) (hl : s.size ≤ 4611686018427387904) (hp : I64 p) : CallOK Try.prog 87 [aS s, aN p] (TX (getText s p)) := by
  have c1 := sGetNum_ok s p (by rw [maxLen_is]; omega) hp
  have nf := numOf_facts s p
  obtain ⟨q, hq⟩ : ∃ q, q = getText s p := ⟨_, rfl⟩
  obtain ⟨z, hz⟩ : ∃ z, z = getNum s p := ⟨_, rfl⟩
  rw [← hq]
  rw [← hz] at c1
  have hq1 : tooLong s = true → z = (0, 0, 2) ∧ q = (⟨⟨[]⟩⟩, 0, 2) := fun h => ⟨by rw [hz, getNum, ite_t h], by rw [hq, getText, ite_t h]⟩
  have hq2 : tooLong s = false → z = numOf s p ∧ q = wordOf s p := fun h => ⟨by rw [hz, getNum, ite_f h], by rw [hq, getText, ite_f h]⟩
  obtain ⟨n, a, c⟩ := z
  have hq3 : q = if c ≠ 0 then (⟨⟨[]⟩⟩, 0, c) else if n < 0 ∨ 20000 < n then (⟨⟨[]⟩⟩, 0, 3) else if Int.ofNat s.size < a + n then (⟨⟨[]⟩⟩, 0, 4) else (s.extract a.toNat (a + n).toNat, a + n, 0) := by
    cases ht : tooLong s with
    | true => obtain ⟨h1, h2⟩ := hq1 ht; simp only [Prod.mk.injEq] at h1; rw [h2, h1.2.2, if_pos (by decide)]
    | false => obtain ⟨h1, h2⟩ := hq2 ht; rw [h2, wordOf, ← h1]
  have nf : c = 0 → 0 ≤ a ∧ a ≤ Int.ofNat s.size := fun hc => by
    cases ht : tooLong s with
    | true => obtain ⟨h1, h2⟩ := hq1 ht; simp only [Prod.mk.injEq] at h1; rw [hc] at h1; exact absurd h1.2.2 (by decide)
    | false => obtain ⟨h1, h2⟩ := hq2 ht; rw [← h1] at nf; exact ⟨nf.2.1, nf.2.2.1⟩
  clear hq hq1 hq2 hz
  obtain ⟨M, hM⟩ := mapEx
  try simp only [hM]
  refine go Try.func87 rfl rfl rfl rfl fun pAdd pSub pMul pQuo pRem pAnd pOr pXor pAndNot pShl pShr pNeg pCompl pConv pLt pLe pEq pSlt pSle pSeq pCat pCatOk pSlen pSsub pSat pIadd pIsub pBnot pBeq pImin pImax pLlen pLsub pLapp pLset pLcopy pLenOk pBytes pRep hF Ca hC r hr => ?_
  cbv
  have el : pSlen s = Int.ofNat s.size := slenIs hF s
  refine callI hC c1 ?_
  cbv
  refine brkI (fun h => ?_) (fun h => ?_) <;> try cbv
  · have h := eqT hF h
    subst h
    obtain ⟨nf2, nf3⟩ := nf rfl
    rw [if_neg (by simp)] at hq3
    have e : 0 ≤ n → n ≤ 20000 → pAdd .i64 a n = a + n := fun _ _ => addIs hF (by ((try simp only [Int.ofNat_eq_natCast] at *); omega)) (by ((try simp only [Int.ofNat_eq_natCast] at *); omega))
    have e2 : 0 ≤ n → n ≤ 20000 → pSub .i64 (pSlen s) n = Int.ofNat s.size - n := fun _ _ => by rw [el]; exact subIs hF (by ((try simp only [Int.ofNat_eq_natCast] at *); omega)) (by ((try simp only [Int.ofNat_eq_natCast] at *); omega))
    refine brkI (fun h1 => ?_) (fun h1 => ?_) <;> try cbv
    · have h1 := ltT hF h1
      rw [if_pos (Or.inl h1)] at hq3
      exact retTX (v := (⟨⟨[]⟩⟩, 0, 3)) hr hq3
    have h1 := ltF hF h1
    refine brkI (fun h2 => ?_) (fun h2 => ?_) <;> try cbv
    · have h2 := ltT hF h2
      rw [if_pos (Or.inr h2)] at hq3
      exact retTX (v := (⟨⟨[]⟩⟩, 0, 3)) hr hq3
    have h2 := ltF hF h2
    rw [if_neg (by omega)] at hq3
    rw [e2 h1 h2]
    refine brkI (fun h3 => ?_) (fun h3 => ?_) <;> try cbv
    · have h3 := ltT hF h3
      rw [if_pos (by omega)] at hq3
      exact retTX (v := (⟨⟨[]⟩⟩, 0, 4)) hr hq3
    · have h3 := ltF hF h3
      rw [if_neg (by omega)] at hq3
      rw [e h1 h2]
      refine brT (mkLe hF nf2) ?_
      try cbv
      refine brT (mkLe hF (by omega)) ?_
      try cbv
      refine brT (mkLe hF (by rw [el]; ((try simp only [Int.ofNat_eq_natCast] at *); omega))) ?_
      try cbv
      have e3 : pSsub s a (a + n) = s.extract a.toNat (a + n).toNat := by
        have : prims.ssub s a (a + n) = s.extract a.toNat (a + n).toNat := rfl
        rw [hF] at this; exact this
      rw [e3]
      exact retTX hr hq3
  · have h := eqF hF h
    rw [if_pos h] at hq3
    exact retTX (v := (⟨⟨[]⟩⟩, 0, c)) hr hq3
end Go.Proofs.Ytngnflfjacappaa
