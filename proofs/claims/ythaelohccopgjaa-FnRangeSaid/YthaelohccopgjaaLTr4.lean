/- Functions of the program, each with what it returns, run by the evaluator; the conditions stand in the theorems. -/
import Derived.Test.YthaelohccopgjaaLTr3
namespace Go.Proofs.Ythaelohccopgjaa
open Go Go.Proofs.YthaelohccopgjaaW Go.Proofs
set_option linter.unusedVariables false
set_option linter.unusedSimpArgs false
set_option maxRecDepth 100000
set_option maxHeartbeats 8000000
def pA (o : Option ByteArray) : A := match o with
  | none => .c (.y (.sc (.pointer none)))
  | some s => .rp [yS s]
theorem lev_noHead {k : Nat} {t : Tr} {lo hi : Option ByteArray} (h : t.headOk lo hi = false) : lev (k + 1) t lo hi = -1 := by
  rw [lev, h]; rfl
theorem head_noShape {t : Tr} {lo hi : Option ByteArray} (h : ¬ t.shape false = true) : t.headOk lo hi = false := by
  rw [Tr.headOk, Bool.eq_false_iff.2 h]; rfl
theorem head_noKey {t : Tr} {lo hi : Option ByteArray} {i : Nat} {u : ByteArray} (hs : i < t.keys.length) (ku : t.key i = u)
    (h : 20000 < u.size ∨ 20000 < (t.val i).size ∨ (i ≠ 0 ∧ ltS (t.key (i - 1)) u = false)) : t.headOk lo hi = false := by
  rw [Tr.headOk]
  have : allTo t.keyOk t.keys.length = false := Bool.eq_false_iff.2 fun e => by
    have e := allTo_iff.1 e i hs
    simp only [Tr.keyOk, ku, Bool.and_eq_true, Bool.or_eq_true, Bool.not_eq_true', decide_eq_true_eq, decide_eq_false_iff_not] at e
    rcases h with h | h | h
    · exact e.1.1 h
    · exact e.1.2 h
    · rcases e.2 with h' | h'
      · exact h.1 h'
      · rw [h.2] at h'; cases h'
  rw [this, Bool.and_false, Bool.false_and]
theorem good_key {t : Tr} {i : Nat} {u : ByteArray} (ku : t.key i = u) (h1 : ¬ 20000 < u.size) (h2 : ¬ 20000 < (t.val i).size) (h3 : i = 0 ∨ ltS (t.key (i - 1)) u = true) : t.keyOk i = true := by
  simp only [Tr.keyOk, ku, Bool.and_eq_true, Bool.or_eq_true, Bool.not_eq_true', decide_eq_true_eq, decide_eq_false_iff_not]
  exact ⟨⟨h1, h2⟩, h3⟩
theorem head_noLow {t : Tr} {lo hi : Option ByteArray} (h : lowOk lo (t.key 0) = false) : t.headOk lo hi = false := by
  rw [Tr.headOk, h, Bool.false_and, Bool.and_false]
theorem head_noHigh {t : Tr} {lo hi : Option ByteArray} (h : highOk hi (t.key (t.keys.length - 1)) = false) : t.headOk lo hi = false := by
  rw [Tr.headOk, h, Bool.and_false, Bool.and_false]
theorem lev_head {k : Nat} {t : Tr} {lo hi : Option ByteArray} (h1 : t.shape false = true) (h2 : ∀ i, i < t.keys.length → t.keyOk i = true) (h3 : lowOk lo (t.key 0) = true) (h4 : highOk hi (t.key (t.keys.length - 1)) = true) :
    lev (k + 1) t lo hi = upOne (kidsRun (fun i => lev k (t.kid i) (t.lowAt lo i) (t.highAt hi i)) 0 t.kids.length 0) := by
  rw [lev, if_pos]
  rw [Tr.headOk, h1, allTo_iff.2 h2, h3, h4]; rfl
theorem lev_le {k : Nat} {t : Tr} {lo hi : Option ByteArray} : lev k t lo hi ≤ k := by
  by_cases h : 0 ≤ lev k t lo hi
  · obtain ⟨d, h1, h2, h3, _⟩ := lev_ok rfl h
    omega
  · omega
theorem lev0_ok (t : Tr) (lo hi : Option ByteArray) (b1 : t.keys.length ≤ maxLen) : CallOK Try.prog 64 [.agg [.y (.sl 1 (t.keys.map rowS)), .y (.sl 1 (t.vals.map rowS)), .y (.sl 3 (t.kids.map Tr.row))], pA lo, pA hi, aN (Int.ofNat 0)] (N (-1)) := by
  obtain ⟨q, hq⟩ : ∃ q : Int, q = -1 := ⟨_, rfl⟩
  rw [← hq]
  rw [maxLen_is] at b1
  obtain ⟨n, hn⟩ : ∃ n, n = t.keys.length := ⟨_, rfl⟩
  obtain ⟨a1, ha1⟩ : ∃ a, a = pA lo := ⟨_, rfl⟩
  obtain ⟨a2, ha2⟩ : ∃ a, a = pA hi := ⟨_, rfl⟩
  cases lo <;> cases hi <;> simp only [pA]
  all_goals
    obtain ⟨M, hM⟩ := mapEx
    try simp only [hM]
    refine go Try.func64 rfl rfl rfl rfl fun pAdd pSub pMul pQuo pRem pAnd pOr pXor pAndNot pShl pShr pNeg pCompl pConv pLt pLe pEq pSlt pSle pSeq pCat pCatOk pSlen pSsub pSat pIadd pIsub pBnot pBeq pImin pImax pLlen pLsub pLapp pLset pLcopy pLenOk pBytes pRep hF Ca hC r hr => ?_
    cbv
    have q0 : pEq 0 0 = true := mkEq hF rfl
    repeat' (first
      | (exact retN hr hq)
      | (refine brT (by assumption) ?_; try cbv)
      | (refine brF (by assumption) ?_; try cbv)
      | (refine brkI (fun h => ?_) (fun h => ?_) <;> try cbv))
theorem lev_of00 (k : Nat) (t : Tr) (hk : k ≤ 20) (b1 : t.keys.length ≤ maxLen) (b2 : t.vals.length ≤ maxLen) (b3 : t.kids.length ≤ maxLen)
    (ih : ∀ c ∈ t.kids, ∀ (lo hi : Option ByteArray), CallOK Try.prog 64 [.agg [.y (.sl 1 (c.keys.map rowS)), .y (.sl 1 (c.vals.map rowS)), .y (.sl 3 (c.kids.map Tr.row))], pA lo, pA hi, aN (Int.ofNat k)] (N (lev k c lo hi))) :
    CallOK Try.prog 64 [.agg [.y (.sl 1 (t.keys.map rowS)), .y (.sl 1 (t.vals.map rowS)), .y (.sl 3 (t.kids.map Tr.row))], .c (.y (.sc (.pointer none))), .c (.y (.sc (.pointer none))), aN (Int.ofNat (k + 1))] (N (lev (k + 1) t none none)) := by
  rw [maxLen_is] at b1 b2 b3
  have hk20 : (k : Int) ≤ 20 := by omega
  obtain ⟨q, hq⟩ : ∃ q, q = lev (k + 1) t none none := ⟨_, rfl⟩
  rw [← hq]
  obtain ⟨dd, hdd⟩ : ∃ dd, dd = k + 1 := ⟨_, rfl⟩
  rw [← hdd]
  obtain ⟨n, hn⟩ : ∃ n, n = t.keys.length := ⟨_, rfl⟩
  obtain ⟨nv, hnv⟩ : ∃ n, n = t.vals.length := ⟨_, rfl⟩
  obtain ⟨nk, hnk⟩ : ∃ n, n = t.kids.length := ⟨_, rfl⟩
  obtain ⟨n1, hn1⟩ : ∃ n1, n1 = n + 1 := ⟨_, rfl⟩
  rw [← hn] at b1
  rw [← hnv] at b2
  rw [← hnk] at b3
  obtain ⟨M, hM⟩ := mapEx
  try simp only [hM]
  refine go Try.func64 rfl rfl rfl rfl fun pAdd pSub pMul pQuo pRem pAnd pOr pXor pAndNot pShl pShr pNeg pCompl pConv pLt pLe pEq pSlt pSle pSeq pCat pCatOk pSlen pSsub pSat pIadd pIsub pBnot pBeq pImin pImax pLlen pLsub pLapp pLset pLcopy pLenOk pBytes pRep hF Ca hC r hr => ?_
  cbv
  have lk : pLlen (M rowS t.keys) = Int.ofNat n := (llenIs hF _).trans (by rw [← hM, List.length_map, ← hn]; rfl)
  have lv : pLlen (M rowS t.vals) = Int.ofNat nv := (llenIs hF _).trans (by rw [← hM, List.length_map, ← hnv]; rfl)
  have lkk : pLlen (M Tr.row t.kids) = Int.ofNat nk := (llenIs hF _).trans (by rw [← hM, List.length_map, ← hnk]; rfl)
  rw [lk]
  have noShape : ¬ t.shape false = true → q = -1 := fun h => hq.trans (lev_noHead (head_noShape h))
  refine brkI (fun h0 => ?_) (fun h0 => ?_) <;> try cbv
  · refine retN hr (noShape fun hs => ?_)
    have h0 := ltT hF h0
    simp only [Tr.shape, Bool.and_eq_true, Bool.or_eq_true, decide_eq_true_eq, Bool.false_eq_true, false_or, ← hn] at hs
    ((try simp only [Int.ofNat_eq_natCast] at *); omega)
  refine brkI (fun h1 => ?_) (fun h1 => ?_) <;> try cbv
  · refine retN hr (noShape fun hs => ?_)
    have h1 := ltT hF h1
    simp only [Tr.shape, Bool.and_eq_true, Bool.or_eq_true, decide_eq_true_eq, Bool.false_eq_true, false_or, ← hn] at hs
    ((try simp only [Int.ofNat_eq_natCast] at *); omega)
  have n3 : n ≤ 3 := by have h1 := ltF hF h1; ((try simp only [Int.ofNat_eq_natCast] at *); omega)
  have n0 : 1 ≤ n := by have h0 := ltF hF h0; ((try simp only [Int.ofNat_eq_natCast] at *); omega)
  have e1 : pAdd .i64 (Int.ofNat n) 1 = Int.ofNat n1 := hn1 ▸ add1Is hF (by omega)
  have e5 : pSub .i64 (Int.ofNat n) 1 = Int.ofNat (n - 1) := sub1Is hF (by omega) (by omega)
  have qd : pEq (Int.ofNat dd) 0 = false := mkNe hF (by ((try simp only [Int.ofNat_eq_natCast] at *); omega))
  refine cutG (G := ?G) (H := t.shape false = true) (fun key => ?main) (fun hsh => ?loop)
  case' main =>
    repeat' (first
      | (refine brT (by assumption) ?_; try cbv)
      | (refine brF (by assumption) ?_; try cbv)
      | (simp only [lk, lv, lkk, e1]; refine brkI (fun h => ?_) (fun h => ?_) <;> try cbv)
      | (refine brkI (fun h => ?_) (fun h => ?_) <;> try cbv))
    all_goals first
      | (refine retN hr (noShape fun hs => ?_)
         have lD : ∀ a b, pLt a b = decide (a < b) := ltD hF
         have eD : ∀ a b, pLe a b = decide (a ≤ b) := leD hF
         have qD : ∀ a b, pEq a b = decide (a = b) := eqD hF
         have sD : ∀ a b, pSeq a b = decide (a = b) := seqD hF
         simp only [lD, eD, qD, decide_eq_true_eq, decide_eq_false_iff_not, Int.ofNat_eq_natCast] at *
         simp only [Tr.shape, Bool.and_eq_true, Bool.or_eq_true, decide_eq_true_eq, ← hn, ← hnv, ← hnk] at hs
         clear key ih hq hr noShape
         omega)
      | skip
    all_goals
      have hsh : t.shape false = true := by
        have lD : ∀ a b, pLt a b = decide (a < b) := ltD hF
        have eD : ∀ a b, pLe a b = decide (a ≤ b) := leD hF
        have qD : ∀ a b, pEq a b = decide (a = b) := eqD hF
        have sD : ∀ a b, pSeq a b = decide (a = b) := seqD hF
        simp only [lD, eD, qD, decide_eq_true_eq, decide_eq_false_iff_not, Int.ofNat_eq_natCast] at *
        simp only [Tr.shape, Bool.and_eq_true, Bool.or_eq_true, decide_eq_true_eq, ← hn, ← hnv, ← hnk]
        clear key ih hq hr noShape
        omega
      exact key hsh
  clear noShape h0 h1
  have hnvn : nv = n := by
    simp only [Tr.shape, Bool.and_eq_true, decide_eq_true_eq, ← hn, ← hnv] at hsh
    exact hsh.1.2
  have hnk1 : nk = 0 ∨ nk = n + 1 := by
    simp only [Tr.shape, Bool.and_eq_true, Bool.or_eq_true, decide_eq_true_eq, ← hn, ← hnk] at hsh
    omega
  subst hnvn
  have h20 : ∀ {s : ByteArray}, pLt 20000 (pSlen s) = true → 20000 < s.size := fun {s} h => by have h := ltT hF h; rw [show pSlen s = Int.ofNat s.size from slenIs hF s] at h; ((try simp only [Int.ofNat_eq_natCast] at *); omega)
  have h21 : ∀ {s : ByteArray}, pLt 20000 (pSlen s) = false → ¬ 20000 < s.size := fun {s} h => by have h := ltF hF h; rw [show pSlen s = Int.ofNat s.size from slenIs hF s] at h; ((try simp only [Int.ofNat_eq_natCast] at *); omega)
  try rw [lk]
  refine loop_all (fun a st => st.n 55 (Int.ofNat a)) t.keyOk nv rfl (fun K' hK I i hi hp ih1 => ?_)
  cbv
  refine brkI (fun h0 => ?_) (fun h0 => ?_) <;> try cbv
  · have h0 := ltT hF h0
    have hs : i < t.keys.length := by rw [← hn]; ((try simp only [Int.ofNat_eq_natCast] at *); omega)
    have hs2 : i < t.vals.length := by rw [← hnv]; ((try simp only [Int.ofNat_eq_natCast] at *); omega)
    have e2 : pAdd .i64 (Int.ofNat i) 1 = Int.ofNat (i + 1) := add1Is hF (by omega)
    refine lgetM (l := t.keys) (fun u => [yS u]) (fun u => by simp only [rowS]) (hM _ _).symm hs fun u hu => ?_
    cbv
    have ku : t.key i = u := getD_of hs hu
    refine brkI (fun h1 => ?_) (fun h1 => ?_) <;> try cbv
    · refine hK _ _ ?_
      cbv
      exact retN hr (hq.trans (lev_noHead (head_noKey hs ku (.inl (h20 h1)))))
    refine lgetM (l := t.vals) (fun u => [yS u]) (fun u => by simp only [rowS]) (hM _ _).symm hs2 fun v hv => ?_
    cbv
    have kv : t.val i = v := getD_of hs2 hv
    refine brkI (fun h2 => ?_) (fun h2 => ?_) <;> try cbv
    · refine hK _ _ ?_
      cbv
      exact retN hr (hq.trans (lev_noHead (head_noKey hs ku (.inr (.inl (kv ▸ h20 h2))))))
    have g1 := h21 h1
    have g2 : ¬ 20000 < (t.val i).size := kv ▸ h21 h2
    clear h1 h2
    refine brkI (fun h1 => ?_) (fun h1 => ?_) <;> try cbv
    · have h1 : 0 < i := by have h1 := ltT hF h1; ((try simp only [Int.ofNat_eq_natCast] at *); omega)
      have e4 : pSub .i64 (Int.ofNat i) 1 = Int.ofNat (i - 1) := sub1Is hF h1 (by omega)
      have hs3 : i - 1 < t.keys.length := by omega
      rw [e4]
      refine lgetM (l := t.keys) (fun u => [yS u]) (fun u => by simp only [rowS]) (hM _ _).symm hs3 fun u' hu' => ?_
      cbv
      have ku' : t.key (i - 1) = u' := getD_of hs3 hu'
      refine brkI (fun h2 => ?_) (fun h2 => ?_) <;> try cbv
      · refine hK _ _ ?_
        cbv
        exact retN hr (hq.trans (lev_noHead (head_noKey hs ku (.inr (.inr ⟨by omega, ku' ▸ sleT hF h2⟩)))))
      · conv => arg 1; cbv
        rw [e2]
        exact ih1 _ (by ((try simp only [Int.ofNat_eq_natCast] at *); omega)) (good_key ku g1 g2 (.inr (ku' ▸ sleF hF h2))) rfl
    · conv => arg 1; cbv
      rw [e2]
      exact ih1 _ (by ((try simp only [Int.ofNat_eq_natCast] at *); omega)) (good_key ku g1 g2 (.inl (by have h1 := ltF hF h1; ((try simp only [Int.ofNat_eq_natCast] at *); omega)))) rfl
  have hall : ∀ j, j < t.keys.length → t.keyOk j = true := fun j hj => hp j (by have h0 := ltF hF h0; rw [← hn] at hj; ((try simp only [Int.ofNat_eq_natCast] at *); omega))
  clear ih1 hp h0
  refine hK _ _ ?_
  cbv
  clear hK
  have g4 : lowOk none (t.key 0) = true := rfl
  have g5 : highOk none (t.key (t.keys.length - 1)) = true := rfl
  have hq' := hq.trans (lev_head hsh hall g4 g5)
  rw [← hnk] at hq'
  clear hq hsh hall g4 g5
  have hq := hq'
  clear hq'
  obtain ⟨kr, hkr⟩ : ∃ kr, kr = kidsRun (fun i => lev k (t.kid i) (t.lowAt none i) (t.highAt none i)) 0 nk 0 := ⟨_, rfl⟩
  rw [← hkr] at hq
  try rw [lkk]
  refine loop_u (α := Nat × Int) (fun a st => (st.n 12 a.2).n 118 (Int.ofNat a.1)) (fun a => a.1 ≤ nk ∧ 0 ≤ a.2 ∧ a.2 ≤ k ∧ kr = kidsRun (fun i => lev k (t.kid i) (t.lowAt none i) (t.highAt none i)) a.1 (nk - a.1) a.2) (fun a => nk - a.1) (0, 0) rfl ⟨by omega, by dsimp only; omega, by dsimp only; omega, hkr⟩ (fun K' hK I a hi ih1 => ?_)
  clear hkr
  obtain ⟨i, dp⟩ := a
  obtain ⟨hi, d0, d1, hkr⟩ := hi
  dsimp only at hi d0 d1 hkr
  cbv
  refine brkI (fun h0 => ?_) (fun h0 => ?_) <;> try cbv
  · have h0 := ltT hF h0
    have h0 : i < nk := by ((try simp only [Int.ofNat_eq_natCast] at *); omega)
    have hs : i < t.kids.length := by omega
    have hnk : nk = nv + 1 := by omega
    have e2 : pAdd .i64 (Int.ofNat i) 1 = Int.ofNat (i + 1) := add1Is hF (by omega)
    have e3 : pSub .i64 (Int.ofNat dd) 1 = Int.ofNat k := by
      have e := sub1Is hF (i := dd) (by omega) (by omega)
      exact e.trans (by rw [hdd]; rfl)
    have last : ∀ (c : Tr), c = t.kids[i] → ∀ (lo hi : Option ByteArray), CallOK Try.prog 64 [.agg [.y (.sl 1 (c.keys.map rowS)), .y (.sl 1 (c.vals.map rowS)), .y (.sl 3 (c.kids.map Tr.row))], pA lo, pA hi, aN (Int.ofNat k)] (N (lev k c lo hi)) := fun c hc lo hi => ih c (hc ▸ List.getElem_mem hs) lo hi
    simp only [hM] at last
    refine lgetM (l := t.kids) (fun u => [.sl 1 (M rowS u.keys), .sl 1 (M rowS u.vals), .sl 3 (M Tr.row u.kids)]) (fun u => by simp only [Tr.row_eq, hM]) (hM _ _).symm hs fun c hc => ?_
    cbv
    have kc : t.kid i = c := getD_of hs hc
    refine brkI (fun h1 => ?_) (fun h1 => ?_) <;> try cbv
    · have h1' := h1
      have h1 : 0 < i := by have h1 := ltT hF h1; ((try simp only [Int.ofNat_eq_natCast] at *); omega)
      have e4 : pSub .i64 (Int.ofNat i) 1 = Int.ofNat (i - 1) := sub1Is hF h1 (by omega)
      have hs3 : i - 1 < t.keys.length := by omega
      rw [e4]
      refine lgetM (l := t.keys) (fun u => [yS u]) (fun u => by simp only [rowS]) (hM _ _).symm hs3 fun u' hu' => ?_
      cbv
      have gl : t.lowAt none i = some u' := lowAt_pos (by omega) (getD_of hs3 hu')
      try rw [lk]
      refine brkI (fun h2 => ?_) (fun h2 => ?_) <;> try cbv
      · have h2 : i < t.keys.length := by have h2 := ltT hF h2; rw [← hn]; ((try simp only [Int.ofNat_eq_natCast] at *); omega)
        refine lgetM (l := t.keys) (fun u => [yS u]) (fun u => by simp only [rowS]) (hM _ _).symm h2 fun u hu => ?_
        cbv
        have gh : t.highAt none i = some u := highAt_in h2 (getD_of h2 hu)
        rw [e3]
        refine callN hC (last c hc (some u') (some u)) (fun m hm => ?_)
        cbv
        have hf : lev k (t.kid i) (t.lowAt none i) (t.highAt none i) = m := by rw [kc, gl, gh]; exact hm.symm
        clear hm
        rw [show nk - i = (nk - (i + 1)) + 1 from by omega, kidsRun] at hkr
        rw [hf] at hkr
        have hmle : m ≤ k := hf ▸ lev_le
        refine brkI (fun h6 => ?_) (fun h6 => ?_) <;> try cbv
        · have h6 := ltT hF h6
          rw [if_pos (by simp [h6])] at hkr
          refine hK _ _ ?_
          cbv
          exact retN hr (hq.trans (by rw [hkr]; rfl))
        have h6 := ltF hF h6
        refine brT (by assumption) ?_
        try cbv
        refine brkI (fun h7 => ?_) (fun h7 => ?_) <;> try cbv
        · have h7 := eqT hF h7
          rw [if_neg (by simp; omega)] at hkr
          conv => arg 1; cbv
          rw [e2]
          exact ih1 (i + 1, m) _ ⟨by dsimp only; omega, by dsimp only; omega, by dsimp only; omega, hkr⟩ (by dsimp only; omega) rfl
        · have h7 := eqF hF h7
          rw [if_pos (by simp; omega)] at hkr
          refine hK _ _ ?_
          cbv
          exact retN hr (hq.trans (by rw [hkr]; rfl))
      · have h2 : ¬ i < t.keys.length := by have h2 := ltF hF h2; rw [← hn]; ((try simp only [Int.ofNat_eq_natCast] at *); omega)
        have gh : t.highAt none i = none := highAt_out h2
        rw [e3]
        refine callN hC (last c hc (some u') none) (fun m hm => ?_)
        cbv
        have hf : lev k (t.kid i) (t.lowAt none i) (t.highAt none i) = m := by rw [kc, gl, gh]; exact hm.symm
        clear hm
        rw [show nk - i = (nk - (i + 1)) + 1 from by omega, kidsRun] at hkr
        rw [hf] at hkr
        have hmle : m ≤ k := hf ▸ lev_le
        refine brkI (fun h6 => ?_) (fun h6 => ?_) <;> try cbv
        · have h6 := ltT hF h6
          rw [if_pos (by simp [h6])] at hkr
          refine hK _ _ ?_
          cbv
          exact retN hr (hq.trans (by rw [hkr]; rfl))
        have h6 := ltF hF h6
        refine brT (by assumption) ?_
        try cbv
        refine brkI (fun h7 => ?_) (fun h7 => ?_) <;> try cbv
        · have h7 := eqT hF h7
          rw [if_neg (by simp; omega)] at hkr
          conv => arg 1; cbv
          rw [e2]
          exact ih1 (i + 1, m) _ ⟨by dsimp only; omega, by dsimp only; omega, by dsimp only; omega, hkr⟩ (by dsimp only; omega) rfl
        · have h7 := eqF hF h7
          rw [if_pos (by simp; omega)] at hkr
          refine hK _ _ ?_
          cbv
          exact retN hr (hq.trans (by rw [hkr]; rfl))
    · have h1' := h1
      have h1 : i = 0 := by have h1 := ltF hF h1; ((try simp only [Int.ofNat_eq_natCast] at *); omega)
      have gl : t.lowAt none i = none := lowAt_zero h1
      try rw [lk]
      refine brkI (fun h2 => ?_) (fun h2 => ?_) <;> try cbv
      · have h2 : i < t.keys.length := by have h2 := ltT hF h2; rw [← hn]; ((try simp only [Int.ofNat_eq_natCast] at *); omega)
        refine lgetM (l := t.keys) (fun u => [yS u]) (fun u => by simp only [rowS]) (hM _ _).symm h2 fun u hu => ?_
        cbv
        have gh : t.highAt none i = some u := highAt_in h2 (getD_of h2 hu)
        rw [e3]
        refine callN hC (last c hc none (some u)) (fun m hm => ?_)
        cbv
        have hf : lev k (t.kid i) (t.lowAt none i) (t.highAt none i) = m := by rw [kc, gl, gh]; exact hm.symm
        clear hm
        rw [show nk - i = (nk - (i + 1)) + 1 from by omega, kidsRun] at hkr
        rw [hf] at hkr
        have hmle : m ≤ k := hf ▸ lev_le
        refine brkI (fun h6 => ?_) (fun h6 => ?_) <;> try cbv
        · have h6 := ltT hF h6
          rw [if_pos (by simp [h6])] at hkr
          refine hK _ _ ?_
          cbv
          exact retN hr (hq.trans (by rw [hkr]; rfl))
        have h6 := ltF hF h6
        refine brF (by assumption) ?_
        try cbv
        · rw [if_neg (by simp; omega)] at hkr
          conv => arg 1; cbv
          rw [e2]
          exact ih1 (i + 1, m) _ ⟨by dsimp only; omega, by dsimp only; omega, by dsimp only; omega, hkr⟩ (by dsimp only; omega) rfl
      · have h2 : ¬ i < t.keys.length := by have h2 := ltF hF h2; rw [← hn]; ((try simp only [Int.ofNat_eq_natCast] at *); omega)
        have gh : t.highAt none i = none := highAt_out h2
        rw [e3]
        refine callN hC (last c hc none none) (fun m hm => ?_)
        cbv
        have hf : lev k (t.kid i) (t.lowAt none i) (t.highAt none i) = m := by rw [kc, gl, gh]; exact hm.symm
        clear hm
        rw [show nk - i = (nk - (i + 1)) + 1 from by omega, kidsRun] at hkr
        rw [hf] at hkr
        have hmle : m ≤ k := hf ▸ lev_le
        refine brkI (fun h6 => ?_) (fun h6 => ?_) <;> try cbv
        · have h6 := ltT hF h6
          rw [if_pos (by simp [h6])] at hkr
          refine hK _ _ ?_
          cbv
          exact retN hr (hq.trans (by rw [hkr]; rfl))
        have h6 := ltF hF h6
        refine brF (by assumption) ?_
        try cbv
        · rw [if_neg (by simp; omega)] at hkr
          conv => arg 1; cbv
          rw [e2]
          exact ih1 (i + 1, m) _ ⟨by dsimp only; omega, by dsimp only; omega, by dsimp only; omega, hkr⟩ (by dsimp only; omega) rfl
  · have h0 := ltF hF h0
    have hi2 : i = nk := by ((try simp only [Int.ofNat_eq_natCast] at *); omega)
    subst hi2
    rw [Nat.sub_self, kidsRun] at hkr
    have e6 : pAdd .i64 dp 1 = dp + 1 := addIs hF (by omega) (by omega)
    refine hK _ _ ?_
    cbv
    rw [e6]
    exact retN hr (hq.trans (by rw [hkr, upOne, if_neg (by omega)]))
theorem lev_of01 (k : Nat) (t : Tr) (hgh : ByteArray) (hk : k ≤ 20) (b1 : t.keys.length ≤ maxLen) (b2 : t.vals.length ≤ maxLen) (b3 : t.kids.length ≤ maxLen)
    (ih : ∀ c ∈ t.kids, ∀ (lo hi : Option ByteArray), CallOK Try.prog 64 [.agg [.y (.sl 1 (c.keys.map rowS)), .y (.sl 1 (c.vals.map rowS)), .y (.sl 3 (c.kids.map Tr.row))], pA lo, pA hi, aN (Int.ofNat k)] (N (lev k c lo hi))) :
    CallOK Try.prog 64 [.agg [.y (.sl 1 (t.keys.map rowS)), .y (.sl 1 (t.vals.map rowS)), .y (.sl 3 (t.kids.map Tr.row))], .c (.y (.sc (.pointer none))), .rp [yS hgh], aN (Int.ofNat (k + 1))] (N (lev (k + 1) t none (some hgh))) := by
  rw [maxLen_is] at b1 b2 b3
  have hk20 : (k : Int) ≤ 20 := by omega
  obtain ⟨q, hq⟩ : ∃ q, q = lev (k + 1) t none (some hgh) := ⟨_, rfl⟩
  rw [← hq]
  obtain ⟨dd, hdd⟩ : ∃ dd, dd = k + 1 := ⟨_, rfl⟩
  rw [← hdd]
  obtain ⟨n, hn⟩ : ∃ n, n = t.keys.length := ⟨_, rfl⟩
  obtain ⟨nv, hnv⟩ : ∃ n, n = t.vals.length := ⟨_, rfl⟩
  obtain ⟨nk, hnk⟩ : ∃ n, n = t.kids.length := ⟨_, rfl⟩
  obtain ⟨n1, hn1⟩ : ∃ n1, n1 = n + 1 := ⟨_, rfl⟩
  rw [← hn] at b1
  rw [← hnv] at b2
  rw [← hnk] at b3
  obtain ⟨M, hM⟩ := mapEx
  try simp only [hM]
  refine go Try.func64 rfl rfl rfl rfl fun pAdd pSub pMul pQuo pRem pAnd pOr pXor pAndNot pShl pShr pNeg pCompl pConv pLt pLe pEq pSlt pSle pSeq pCat pCatOk pSlen pSsub pSat pIadd pIsub pBnot pBeq pImin pImax pLlen pLsub pLapp pLset pLcopy pLenOk pBytes pRep hF Ca hC r hr => ?_
  cbv
  have lk : pLlen (M rowS t.keys) = Int.ofNat n := (llenIs hF _).trans (by rw [← hM, List.length_map, ← hn]; rfl)
  have lv : pLlen (M rowS t.vals) = Int.ofNat nv := (llenIs hF _).trans (by rw [← hM, List.length_map, ← hnv]; rfl)
  have lkk : pLlen (M Tr.row t.kids) = Int.ofNat nk := (llenIs hF _).trans (by rw [← hM, List.length_map, ← hnk]; rfl)
  rw [lk]
  have noShape : ¬ t.shape false = true → q = -1 := fun h => hq.trans (lev_noHead (head_noShape h))
  refine brkI (fun h0 => ?_) (fun h0 => ?_) <;> try cbv
  · refine retN hr (noShape fun hs => ?_)
    have h0 := ltT hF h0
    simp only [Tr.shape, Bool.and_eq_true, Bool.or_eq_true, decide_eq_true_eq, Bool.false_eq_true, false_or, ← hn] at hs
    ((try simp only [Int.ofNat_eq_natCast] at *); omega)
  refine brkI (fun h1 => ?_) (fun h1 => ?_) <;> try cbv
  · refine retN hr (noShape fun hs => ?_)
    have h1 := ltT hF h1
    simp only [Tr.shape, Bool.and_eq_true, Bool.or_eq_true, decide_eq_true_eq, Bool.false_eq_true, false_or, ← hn] at hs
    ((try simp only [Int.ofNat_eq_natCast] at *); omega)
  have n3 : n ≤ 3 := by have h1 := ltF hF h1; ((try simp only [Int.ofNat_eq_natCast] at *); omega)
  have n0 : 1 ≤ n := by have h0 := ltF hF h0; ((try simp only [Int.ofNat_eq_natCast] at *); omega)
  have e1 : pAdd .i64 (Int.ofNat n) 1 = Int.ofNat n1 := hn1 ▸ add1Is hF (by omega)
  have e5 : pSub .i64 (Int.ofNat n) 1 = Int.ofNat (n - 1) := sub1Is hF (by omega) (by omega)
  have qd : pEq (Int.ofNat dd) 0 = false := mkNe hF (by ((try simp only [Int.ofNat_eq_natCast] at *); omega))
  refine cutG (G := ?G) (H := t.shape false = true) (fun key => ?main) (fun hsh => ?loop)
  case' main =>
    repeat' (first
      | (refine brT (by assumption) ?_; try cbv)
      | (refine brF (by assumption) ?_; try cbv)
      | (simp only [lk, lv, lkk, e1]; refine brkI (fun h => ?_) (fun h => ?_) <;> try cbv)
      | (refine brkI (fun h => ?_) (fun h => ?_) <;> try cbv))
    all_goals first
      | (refine retN hr (noShape fun hs => ?_)
         have lD : ∀ a b, pLt a b = decide (a < b) := ltD hF
         have eD : ∀ a b, pLe a b = decide (a ≤ b) := leD hF
         have qD : ∀ a b, pEq a b = decide (a = b) := eqD hF
         have sD : ∀ a b, pSeq a b = decide (a = b) := seqD hF
         simp only [lD, eD, qD, decide_eq_true_eq, decide_eq_false_iff_not, Int.ofNat_eq_natCast] at *
         simp only [Tr.shape, Bool.and_eq_true, Bool.or_eq_true, decide_eq_true_eq, ← hn, ← hnv, ← hnk] at hs
         clear key ih hq hr noShape
         omega)
      | skip
    all_goals
      have hsh : t.shape false = true := by
        have lD : ∀ a b, pLt a b = decide (a < b) := ltD hF
        have eD : ∀ a b, pLe a b = decide (a ≤ b) := leD hF
        have qD : ∀ a b, pEq a b = decide (a = b) := eqD hF
        have sD : ∀ a b, pSeq a b = decide (a = b) := seqD hF
        simp only [lD, eD, qD, decide_eq_true_eq, decide_eq_false_iff_not, Int.ofNat_eq_natCast] at *
        simp only [Tr.shape, Bool.and_eq_true, Bool.or_eq_true, decide_eq_true_eq, ← hn, ← hnv, ← hnk]
        clear key ih hq hr noShape
        omega
      exact key hsh
  clear noShape h0 h1
  have hnvn : nv = n := by
    simp only [Tr.shape, Bool.and_eq_true, decide_eq_true_eq, ← hn, ← hnv] at hsh
    exact hsh.1.2
  have hnk1 : nk = 0 ∨ nk = n + 1 := by
    simp only [Tr.shape, Bool.and_eq_true, Bool.or_eq_true, decide_eq_true_eq, ← hn, ← hnk] at hsh
    omega
  subst hnvn
  have h20 : ∀ {s : ByteArray}, pLt 20000 (pSlen s) = true → 20000 < s.size := fun {s} h => by have h := ltT hF h; rw [show pSlen s = Int.ofNat s.size from slenIs hF s] at h; ((try simp only [Int.ofNat_eq_natCast] at *); omega)
  have h21 : ∀ {s : ByteArray}, pLt 20000 (pSlen s) = false → ¬ 20000 < s.size := fun {s} h => by have h := ltF hF h; rw [show pSlen s = Int.ofNat s.size from slenIs hF s] at h; ((try simp only [Int.ofNat_eq_natCast] at *); omega)
  try rw [lk]
  refine loop_all (fun a st => st.n 55 (Int.ofNat a)) t.keyOk nv rfl (fun K' hK I i hi hp ih1 => ?_)
  cbv
  refine brkI (fun h0 => ?_) (fun h0 => ?_) <;> try cbv
  · have h0 := ltT hF h0
    have hs : i < t.keys.length := by rw [← hn]; ((try simp only [Int.ofNat_eq_natCast] at *); omega)
    have hs2 : i < t.vals.length := by rw [← hnv]; ((try simp only [Int.ofNat_eq_natCast] at *); omega)
    have e2 : pAdd .i64 (Int.ofNat i) 1 = Int.ofNat (i + 1) := add1Is hF (by omega)
    refine lgetM (l := t.keys) (fun u => [yS u]) (fun u => by simp only [rowS]) (hM _ _).symm hs fun u hu => ?_
    cbv
    have ku : t.key i = u := getD_of hs hu
    refine brkI (fun h1 => ?_) (fun h1 => ?_) <;> try cbv
    · refine hK _ _ ?_
      cbv
      exact retN hr (hq.trans (lev_noHead (head_noKey hs ku (.inl (h20 h1)))))
    refine lgetM (l := t.vals) (fun u => [yS u]) (fun u => by simp only [rowS]) (hM _ _).symm hs2 fun v hv => ?_
    cbv
    have kv : t.val i = v := getD_of hs2 hv
    refine brkI (fun h2 => ?_) (fun h2 => ?_) <;> try cbv
    · refine hK _ _ ?_
      cbv
      exact retN hr (hq.trans (lev_noHead (head_noKey hs ku (.inr (.inl (kv ▸ h20 h2))))))
    have g1 := h21 h1
    have g2 : ¬ 20000 < (t.val i).size := kv ▸ h21 h2
    clear h1 h2
    refine brkI (fun h1 => ?_) (fun h1 => ?_) <;> try cbv
    · have h1 : 0 < i := by have h1 := ltT hF h1; ((try simp only [Int.ofNat_eq_natCast] at *); omega)
      have e4 : pSub .i64 (Int.ofNat i) 1 = Int.ofNat (i - 1) := sub1Is hF h1 (by omega)
      have hs3 : i - 1 < t.keys.length := by omega
      rw [e4]
      refine lgetM (l := t.keys) (fun u => [yS u]) (fun u => by simp only [rowS]) (hM _ _).symm hs3 fun u' hu' => ?_
      cbv
      have ku' : t.key (i - 1) = u' := getD_of hs3 hu'
      refine brkI (fun h2 => ?_) (fun h2 => ?_) <;> try cbv
      · refine hK _ _ ?_
        cbv
        exact retN hr (hq.trans (lev_noHead (head_noKey hs ku (.inr (.inr ⟨by omega, ku' ▸ sleT hF h2⟩)))))
      · conv => arg 1; cbv
        rw [e2]
        exact ih1 _ (by ((try simp only [Int.ofNat_eq_natCast] at *); omega)) (good_key ku g1 g2 (.inr (ku' ▸ sleF hF h2))) rfl
    · conv => arg 1; cbv
      rw [e2]
      exact ih1 _ (by ((try simp only [Int.ofNat_eq_natCast] at *); omega)) (good_key ku g1 g2 (.inl (by have h1 := ltF hF h1; ((try simp only [Int.ofNat_eq_natCast] at *); omega)))) rfl
  have hall : ∀ j, j < t.keys.length → t.keyOk j = true := fun j hj => hp j (by have h0 := ltF hF h0; rw [← hn] at hj; ((try simp only [Int.ofNat_eq_natCast] at *); omega))
  clear ih1 hp h0
  refine hK _ _ ?_
  cbv
  clear hK
  have g4 : lowOk none (t.key 0) = true := rfl
  rw [e5]
  refine lgetM (l := t.keys) (i := nv - 1) (fun u => [yS u]) (fun u => by simp only [rowS]) (hM _ _).symm (by omega) fun u2 hu2 => ?_
  cbv
  have ku2 : t.key (t.keys.length - 1) = u2 := by rw [← hn]; exact getD_of (by omega) hu2
  refine brkI (fun h5 => ?_) (fun h5 => ?_) <;> try cbv
  all_goals first
    | (exact retN hr (hq.trans (lev_noHead (head_noHigh (by rw [ku2]; exact sltF hF h5)))))
    | skip
  have g5 : highOk (some hgh) (t.key (t.keys.length - 1)) = true := by rw [ku2]; exact sltT hF h5
  have hq' := hq.trans (lev_head hsh hall g4 g5)
  rw [← hnk] at hq'
  clear hq hsh hall g4 g5
  have hq := hq'
  clear hq'
  obtain ⟨kr, hkr⟩ : ∃ kr, kr = kidsRun (fun i => lev k (t.kid i) (t.lowAt none i) (t.highAt (some hgh) i)) 0 nk 0 := ⟨_, rfl⟩
  rw [← hkr] at hq
  try rw [lkk]
  refine loop_u (α := Nat × Int) (fun a st => (st.n 12 a.2).n 118 (Int.ofNat a.1)) (fun a => a.1 ≤ nk ∧ 0 ≤ a.2 ∧ a.2 ≤ k ∧ kr = kidsRun (fun i => lev k (t.kid i) (t.lowAt none i) (t.highAt (some hgh) i)) a.1 (nk - a.1) a.2) (fun a => nk - a.1) (0, 0) rfl ⟨by omega, by dsimp only; omega, by dsimp only; omega, hkr⟩ (fun K' hK I a hi ih1 => ?_)
  clear hkr
  obtain ⟨i, dp⟩ := a
  obtain ⟨hi, d0, d1, hkr⟩ := hi
  dsimp only at hi d0 d1 hkr
  cbv
  refine brkI (fun h0 => ?_) (fun h0 => ?_) <;> try cbv
  · have h0 := ltT hF h0
    have h0 : i < nk := by ((try simp only [Int.ofNat_eq_natCast] at *); omega)
    have hs : i < t.kids.length := by omega
    have hnk : nk = nv + 1 := by omega
    have e2 : pAdd .i64 (Int.ofNat i) 1 = Int.ofNat (i + 1) := add1Is hF (by omega)
    have e3 : pSub .i64 (Int.ofNat dd) 1 = Int.ofNat k := by
      have e := sub1Is hF (i := dd) (by omega) (by omega)
      exact e.trans (by rw [hdd]; rfl)
    have last : ∀ (c : Tr), c = t.kids[i] → ∀ (lo hi : Option ByteArray), CallOK Try.prog 64 [.agg [.y (.sl 1 (c.keys.map rowS)), .y (.sl 1 (c.vals.map rowS)), .y (.sl 3 (c.kids.map Tr.row))], pA lo, pA hi, aN (Int.ofNat k)] (N (lev k c lo hi)) := fun c hc lo hi => ih c (hc ▸ List.getElem_mem hs) lo hi
    simp only [hM] at last
    refine lgetM (l := t.kids) (fun u => [.sl 1 (M rowS u.keys), .sl 1 (M rowS u.vals), .sl 3 (M Tr.row u.kids)]) (fun u => by simp only [Tr.row_eq, hM]) (hM _ _).symm hs fun c hc => ?_
    cbv
    have kc : t.kid i = c := getD_of hs hc
    refine brkI (fun h1 => ?_) (fun h1 => ?_) <;> try cbv
    · have h1' := h1
      have h1 : 0 < i := by have h1 := ltT hF h1; ((try simp only [Int.ofNat_eq_natCast] at *); omega)
      have e4 : pSub .i64 (Int.ofNat i) 1 = Int.ofNat (i - 1) := sub1Is hF h1 (by omega)
      have hs3 : i - 1 < t.keys.length := by omega
      rw [e4]
      refine lgetM (l := t.keys) (fun u => [yS u]) (fun u => by simp only [rowS]) (hM _ _).symm hs3 fun u' hu' => ?_
      cbv
      have gl : t.lowAt none i = some u' := lowAt_pos (by omega) (getD_of hs3 hu')
      try rw [lk]
      refine brkI (fun h2 => ?_) (fun h2 => ?_) <;> try cbv
      · have h2 : i < t.keys.length := by have h2 := ltT hF h2; rw [← hn]; ((try simp only [Int.ofNat_eq_natCast] at *); omega)
        refine lgetM (l := t.keys) (fun u => [yS u]) (fun u => by simp only [rowS]) (hM _ _).symm h2 fun u hu => ?_
        cbv
        have gh : t.highAt (some hgh) i = some u := highAt_in h2 (getD_of h2 hu)
        rw [e3]
        refine callN hC (last c hc (some u') (some u)) (fun m hm => ?_)
        cbv
        have hf : lev k (t.kid i) (t.lowAt none i) (t.highAt (some hgh) i) = m := by rw [kc, gl, gh]; exact hm.symm
        clear hm
        rw [show nk - i = (nk - (i + 1)) + 1 from by omega, kidsRun] at hkr
        rw [hf] at hkr
        have hmle : m ≤ k := hf ▸ lev_le
        refine brkI (fun h6 => ?_) (fun h6 => ?_) <;> try cbv
        · have h6 := ltT hF h6
          rw [if_pos (by simp [h6])] at hkr
          refine hK _ _ ?_
          cbv
          exact retN hr (hq.trans (by rw [hkr]; rfl))
        have h6 := ltF hF h6
        refine brT (by assumption) ?_
        try cbv
        refine brkI (fun h7 => ?_) (fun h7 => ?_) <;> try cbv
        · have h7 := eqT hF h7
          rw [if_neg (by simp; omega)] at hkr
          conv => arg 1; cbv
          rw [e2]
          exact ih1 (i + 1, m) _ ⟨by dsimp only; omega, by dsimp only; omega, by dsimp only; omega, hkr⟩ (by dsimp only; omega) rfl
        · have h7 := eqF hF h7
          rw [if_pos (by simp; omega)] at hkr
          refine hK _ _ ?_
          cbv
          exact retN hr (hq.trans (by rw [hkr]; rfl))
      · have h2 : ¬ i < t.keys.length := by have h2 := ltF hF h2; rw [← hn]; ((try simp only [Int.ofNat_eq_natCast] at *); omega)
        have gh : t.highAt (some hgh) i = (some hgh) := highAt_out h2
        rw [e3]
        refine callN hC (last c hc (some u') (some hgh)) (fun m hm => ?_)
        cbv
        have hf : lev k (t.kid i) (t.lowAt none i) (t.highAt (some hgh) i) = m := by rw [kc, gl, gh]; exact hm.symm
        clear hm
        rw [show nk - i = (nk - (i + 1)) + 1 from by omega, kidsRun] at hkr
        rw [hf] at hkr
        have hmle : m ≤ k := hf ▸ lev_le
        refine brkI (fun h6 => ?_) (fun h6 => ?_) <;> try cbv
        · have h6 := ltT hF h6
          rw [if_pos (by simp [h6])] at hkr
          refine hK _ _ ?_
          cbv
          exact retN hr (hq.trans (by rw [hkr]; rfl))
        have h6 := ltF hF h6
        refine brT (by assumption) ?_
        try cbv
        refine brkI (fun h7 => ?_) (fun h7 => ?_) <;> try cbv
        · have h7 := eqT hF h7
          rw [if_neg (by simp; omega)] at hkr
          conv => arg 1; cbv
          rw [e2]
          exact ih1 (i + 1, m) _ ⟨by dsimp only; omega, by dsimp only; omega, by dsimp only; omega, hkr⟩ (by dsimp only; omega) rfl
        · have h7 := eqF hF h7
          rw [if_pos (by simp; omega)] at hkr
          refine hK _ _ ?_
          cbv
          exact retN hr (hq.trans (by rw [hkr]; rfl))
    · have h1' := h1
      have h1 : i = 0 := by have h1 := ltF hF h1; ((try simp only [Int.ofNat_eq_natCast] at *); omega)
      have gl : t.lowAt none i = none := lowAt_zero h1
      try rw [lk]
      refine brkI (fun h2 => ?_) (fun h2 => ?_) <;> try cbv
      · have h2 : i < t.keys.length := by have h2 := ltT hF h2; rw [← hn]; ((try simp only [Int.ofNat_eq_natCast] at *); omega)
        refine lgetM (l := t.keys) (fun u => [yS u]) (fun u => by simp only [rowS]) (hM _ _).symm h2 fun u hu => ?_
        cbv
        have gh : t.highAt (some hgh) i = some u := highAt_in h2 (getD_of h2 hu)
        rw [e3]
        refine callN hC (last c hc none (some u)) (fun m hm => ?_)
        cbv
        have hf : lev k (t.kid i) (t.lowAt none i) (t.highAt (some hgh) i) = m := by rw [kc, gl, gh]; exact hm.symm
        clear hm
        rw [show nk - i = (nk - (i + 1)) + 1 from by omega, kidsRun] at hkr
        rw [hf] at hkr
        have hmle : m ≤ k := hf ▸ lev_le
        refine brkI (fun h6 => ?_) (fun h6 => ?_) <;> try cbv
        · have h6 := ltT hF h6
          rw [if_pos (by simp [h6])] at hkr
          refine hK _ _ ?_
          cbv
          exact retN hr (hq.trans (by rw [hkr]; rfl))
        have h6 := ltF hF h6
        refine brF (by assumption) ?_
        try cbv
        · rw [if_neg (by simp; omega)] at hkr
          conv => arg 1; cbv
          rw [e2]
          exact ih1 (i + 1, m) _ ⟨by dsimp only; omega, by dsimp only; omega, by dsimp only; omega, hkr⟩ (by dsimp only; omega) rfl
      · have h2 : ¬ i < t.keys.length := by have h2 := ltF hF h2; rw [← hn]; ((try simp only [Int.ofNat_eq_natCast] at *); omega)
        have gh : t.highAt (some hgh) i = (some hgh) := highAt_out h2
        rw [e3]
        refine callN hC (last c hc none (some hgh)) (fun m hm => ?_)
        cbv
        have hf : lev k (t.kid i) (t.lowAt none i) (t.highAt (some hgh) i) = m := by rw [kc, gl, gh]; exact hm.symm
        clear hm
        rw [show nk - i = (nk - (i + 1)) + 1 from by omega, kidsRun] at hkr
        rw [hf] at hkr
        have hmle : m ≤ k := hf ▸ lev_le
        refine brkI (fun h6 => ?_) (fun h6 => ?_) <;> try cbv
        · have h6 := ltT hF h6
          rw [if_pos (by simp [h6])] at hkr
          refine hK _ _ ?_
          cbv
          exact retN hr (hq.trans (by rw [hkr]; rfl))
        have h6 := ltF hF h6
        refine brF (by assumption) ?_
        try cbv
        · rw [if_neg (by simp; omega)] at hkr
          conv => arg 1; cbv
          rw [e2]
          exact ih1 (i + 1, m) _ ⟨by dsimp only; omega, by dsimp only; omega, by dsimp only; omega, hkr⟩ (by dsimp only; omega) rfl
  · have h0 := ltF hF h0
    have hi2 : i = nk := by ((try simp only [Int.ofNat_eq_natCast] at *); omega)
    subst hi2
    rw [Nat.sub_self, kidsRun] at hkr
    have e6 : pAdd .i64 dp 1 = dp + 1 := addIs hF (by omega) (by omega)
    refine hK _ _ ?_
    cbv
    rw [e6]
    exact retN hr (hq.trans (by rw [hkr, upOne, if_neg (by omega)]))
theorem lev_of10 (k : Nat) (t : Tr) (l : ByteArray) (hk : k ≤ 20) (b1 : t.keys.length ≤ maxLen) (b2 : t.vals.length ≤ maxLen) (b3 : t.kids.length ≤ maxLen)
    (ih : ∀ c ∈ t.kids, ∀ (lo hi : Option ByteArray), CallOK Try.prog 64 [.agg [.y (.sl 1 (c.keys.map rowS)), .y (.sl 1 (c.vals.map rowS)), .y (.sl 3 (c.kids.map Tr.row))], pA lo, pA hi, aN (Int.ofNat k)] (N (lev k c lo hi))) :
    CallOK Try.prog 64 [.agg [.y (.sl 1 (t.keys.map rowS)), .y (.sl 1 (t.vals.map rowS)), .y (.sl 3 (t.kids.map Tr.row))], .rp [yS l], .c (.y (.sc (.pointer none))), aN (Int.ofNat (k + 1))] (N (lev (k + 1) t (some l) none)) := by
  rw [maxLen_is] at b1 b2 b3
  have hk20 : (k : Int) ≤ 20 := by omega
  obtain ⟨q, hq⟩ : ∃ q, q = lev (k + 1) t (some l) none := ⟨_, rfl⟩
  rw [← hq]
  obtain ⟨dd, hdd⟩ : ∃ dd, dd = k + 1 := ⟨_, rfl⟩
  rw [← hdd]
  obtain ⟨n, hn⟩ : ∃ n, n = t.keys.length := ⟨_, rfl⟩
  obtain ⟨nv, hnv⟩ : ∃ n, n = t.vals.length := ⟨_, rfl⟩
  obtain ⟨nk, hnk⟩ : ∃ n, n = t.kids.length := ⟨_, rfl⟩
  obtain ⟨n1, hn1⟩ : ∃ n1, n1 = n + 1 := ⟨_, rfl⟩
  rw [← hn] at b1
  rw [← hnv] at b2
  rw [← hnk] at b3
  obtain ⟨M, hM⟩ := mapEx
  try simp only [hM]
  refine go Try.func64 rfl rfl rfl rfl fun pAdd pSub pMul pQuo pRem pAnd pOr pXor pAndNot pShl pShr pNeg pCompl pConv pLt pLe pEq pSlt pSle pSeq pCat pCatOk pSlen pSsub pSat pIadd pIsub pBnot pBeq pImin pImax pLlen pLsub pLapp pLset pLcopy pLenOk pBytes pRep hF Ca hC r hr => ?_
  cbv
  have lk : pLlen (M rowS t.keys) = Int.ofNat n := (llenIs hF _).trans (by rw [← hM, List.length_map, ← hn]; rfl)
  have lv : pLlen (M rowS t.vals) = Int.ofNat nv := (llenIs hF _).trans (by rw [← hM, List.length_map, ← hnv]; rfl)
  have lkk : pLlen (M Tr.row t.kids) = Int.ofNat nk := (llenIs hF _).trans (by rw [← hM, List.length_map, ← hnk]; rfl)
  rw [lk]
  have noShape : ¬ t.shape false = true → q = -1 := fun h => hq.trans (lev_noHead (head_noShape h))
  refine brkI (fun h0 => ?_) (fun h0 => ?_) <;> try cbv
  · refine retN hr (noShape fun hs => ?_)
    have h0 := ltT hF h0
    simp only [Tr.shape, Bool.and_eq_true, Bool.or_eq_true, decide_eq_true_eq, Bool.false_eq_true, false_or, ← hn] at hs
    ((try simp only [Int.ofNat_eq_natCast] at *); omega)
  refine brkI (fun h1 => ?_) (fun h1 => ?_) <;> try cbv
  · refine retN hr (noShape fun hs => ?_)
    have h1 := ltT hF h1
    simp only [Tr.shape, Bool.and_eq_true, Bool.or_eq_true, decide_eq_true_eq, Bool.false_eq_true, false_or, ← hn] at hs
    ((try simp only [Int.ofNat_eq_natCast] at *); omega)
  have n3 : n ≤ 3 := by have h1 := ltF hF h1; ((try simp only [Int.ofNat_eq_natCast] at *); omega)
  have n0 : 1 ≤ n := by have h0 := ltF hF h0; ((try simp only [Int.ofNat_eq_natCast] at *); omega)
  have e1 : pAdd .i64 (Int.ofNat n) 1 = Int.ofNat n1 := hn1 ▸ add1Is hF (by omega)
  have e5 : pSub .i64 (Int.ofNat n) 1 = Int.ofNat (n - 1) := sub1Is hF (by omega) (by omega)
  have qd : pEq (Int.ofNat dd) 0 = false := mkNe hF (by ((try simp only [Int.ofNat_eq_natCast] at *); omega))
  refine cutG (G := ?G) (H := t.shape false = true) (fun key => ?main) (fun hsh => ?loop)
  case' main =>
    repeat' (first
      | (refine brT (by assumption) ?_; try cbv)
      | (refine brF (by assumption) ?_; try cbv)
      | (simp only [lk, lv, lkk, e1]; refine brkI (fun h => ?_) (fun h => ?_) <;> try cbv)
      | (refine brkI (fun h => ?_) (fun h => ?_) <;> try cbv))
    all_goals first
      | (refine retN hr (noShape fun hs => ?_)
         have lD : ∀ a b, pLt a b = decide (a < b) := ltD hF
         have eD : ∀ a b, pLe a b = decide (a ≤ b) := leD hF
         have qD : ∀ a b, pEq a b = decide (a = b) := eqD hF
         have sD : ∀ a b, pSeq a b = decide (a = b) := seqD hF
         simp only [lD, eD, qD, decide_eq_true_eq, decide_eq_false_iff_not, Int.ofNat_eq_natCast] at *
         simp only [Tr.shape, Bool.and_eq_true, Bool.or_eq_true, decide_eq_true_eq, ← hn, ← hnv, ← hnk] at hs
         clear key ih hq hr noShape
         omega)
      | skip
    all_goals
      have hsh : t.shape false = true := by
        have lD : ∀ a b, pLt a b = decide (a < b) := ltD hF
        have eD : ∀ a b, pLe a b = decide (a ≤ b) := leD hF
        have qD : ∀ a b, pEq a b = decide (a = b) := eqD hF
        have sD : ∀ a b, pSeq a b = decide (a = b) := seqD hF
        simp only [lD, eD, qD, decide_eq_true_eq, decide_eq_false_iff_not, Int.ofNat_eq_natCast] at *
        simp only [Tr.shape, Bool.and_eq_true, Bool.or_eq_true, decide_eq_true_eq, ← hn, ← hnv, ← hnk]
        clear key ih hq hr noShape
        omega
      exact key hsh
  clear noShape h0 h1
  have hnvn : nv = n := by
    simp only [Tr.shape, Bool.and_eq_true, decide_eq_true_eq, ← hn, ← hnv] at hsh
    exact hsh.1.2
  have hnk1 : nk = 0 ∨ nk = n + 1 := by
    simp only [Tr.shape, Bool.and_eq_true, Bool.or_eq_true, decide_eq_true_eq, ← hn, ← hnk] at hsh
    omega
  subst hnvn
  have h20 : ∀ {s : ByteArray}, pLt 20000 (pSlen s) = true → 20000 < s.size := fun {s} h => by have h := ltT hF h; rw [show pSlen s = Int.ofNat s.size from slenIs hF s] at h; ((try simp only [Int.ofNat_eq_natCast] at *); omega)
  have h21 : ∀ {s : ByteArray}, pLt 20000 (pSlen s) = false → ¬ 20000 < s.size := fun {s} h => by have h := ltF hF h; rw [show pSlen s = Int.ofNat s.size from slenIs hF s] at h; ((try simp only [Int.ofNat_eq_natCast] at *); omega)
  try rw [lk]
  refine loop_all (fun a st => st.n 55 (Int.ofNat a)) t.keyOk nv rfl (fun K' hK I i hi hp ih1 => ?_)
  cbv
  refine brkI (fun h0 => ?_) (fun h0 => ?_) <;> try cbv
  · have h0 := ltT hF h0
    have hs : i < t.keys.length := by rw [← hn]; ((try simp only [Int.ofNat_eq_natCast] at *); omega)
    have hs2 : i < t.vals.length := by rw [← hnv]; ((try simp only [Int.ofNat_eq_natCast] at *); omega)
    have e2 : pAdd .i64 (Int.ofNat i) 1 = Int.ofNat (i + 1) := add1Is hF (by omega)
    refine lgetM (l := t.keys) (fun u => [yS u]) (fun u => by simp only [rowS]) (hM _ _).symm hs fun u hu => ?_
    cbv
    have ku : t.key i = u := getD_of hs hu
    refine brkI (fun h1 => ?_) (fun h1 => ?_) <;> try cbv
    · refine hK _ _ ?_
      cbv
      exact retN hr (hq.trans (lev_noHead (head_noKey hs ku (.inl (h20 h1)))))
    refine lgetM (l := t.vals) (fun u => [yS u]) (fun u => by simp only [rowS]) (hM _ _).symm hs2 fun v hv => ?_
    cbv
    have kv : t.val i = v := getD_of hs2 hv
    refine brkI (fun h2 => ?_) (fun h2 => ?_) <;> try cbv
    · refine hK _ _ ?_
      cbv
      exact retN hr (hq.trans (lev_noHead (head_noKey hs ku (.inr (.inl (kv ▸ h20 h2))))))
    have g1 := h21 h1
    have g2 : ¬ 20000 < (t.val i).size := kv ▸ h21 h2
    clear h1 h2
    refine brkI (fun h1 => ?_) (fun h1 => ?_) <;> try cbv
    · have h1 : 0 < i := by have h1 := ltT hF h1; ((try simp only [Int.ofNat_eq_natCast] at *); omega)
      have e4 : pSub .i64 (Int.ofNat i) 1 = Int.ofNat (i - 1) := sub1Is hF h1 (by omega)
      have hs3 : i - 1 < t.keys.length := by omega
      rw [e4]
      refine lgetM (l := t.keys) (fun u => [yS u]) (fun u => by simp only [rowS]) (hM _ _).symm hs3 fun u' hu' => ?_
      cbv
      have ku' : t.key (i - 1) = u' := getD_of hs3 hu'
      refine brkI (fun h2 => ?_) (fun h2 => ?_) <;> try cbv
      · refine hK _ _ ?_
        cbv
        exact retN hr (hq.trans (lev_noHead (head_noKey hs ku (.inr (.inr ⟨by omega, ku' ▸ sleT hF h2⟩)))))
      · conv => arg 1; cbv
        rw [e2]
        exact ih1 _ (by ((try simp only [Int.ofNat_eq_natCast] at *); omega)) (good_key ku g1 g2 (.inr (ku' ▸ sleF hF h2))) rfl
    · conv => arg 1; cbv
      rw [e2]
      exact ih1 _ (by ((try simp only [Int.ofNat_eq_natCast] at *); omega)) (good_key ku g1 g2 (.inl (by have h1 := ltF hF h1; ((try simp only [Int.ofNat_eq_natCast] at *); omega)))) rfl
  have hall : ∀ j, j < t.keys.length → t.keyOk j = true := fun j hj => hp j (by have h0 := ltF hF h0; rw [← hn] at hj; ((try simp only [Int.ofNat_eq_natCast] at *); omega))
  clear ih1 hp h0
  refine hK _ _ ?_
  cbv
  clear hK
  refine lgetM (l := t.keys) (i := 0) (fun u => [yS u]) (fun u => by simp only [rowS]) (hM _ _).symm (by omega) fun u hu => ?_
  cbv
  have ku : t.key 0 = u := getD_of (by omega) hu
  refine brkI (fun h3 => ?_) (fun h3 => ?_) <;> try cbv
  · exact retN hr (hq.trans (lev_noHead (head_noLow (by rw [ku]; exact sleT hF h3))))
  have g4 : lowOk (some l) (t.key 0) = true := by rw [ku]; exact sleF hF h3
  have g5 : highOk none (t.key (t.keys.length - 1)) = true := rfl
  have hq' := hq.trans (lev_head hsh hall g4 g5)
  rw [← hnk] at hq'
  clear hq hsh hall g4 g5
  have hq := hq'
  clear hq'
  obtain ⟨kr, hkr⟩ : ∃ kr, kr = kidsRun (fun i => lev k (t.kid i) (t.lowAt (some l) i) (t.highAt none i)) 0 nk 0 := ⟨_, rfl⟩
  rw [← hkr] at hq
  try rw [lkk]
  refine loop_u (α := Nat × Int) (fun a st => (st.n 12 a.2).n 118 (Int.ofNat a.1)) (fun a => a.1 ≤ nk ∧ 0 ≤ a.2 ∧ a.2 ≤ k ∧ kr = kidsRun (fun i => lev k (t.kid i) (t.lowAt (some l) i) (t.highAt none i)) a.1 (nk - a.1) a.2) (fun a => nk - a.1) (0, 0) rfl ⟨by omega, by dsimp only; omega, by dsimp only; omega, hkr⟩ (fun K' hK I a hi ih1 => ?_)
  clear hkr
  obtain ⟨i, dp⟩ := a
  obtain ⟨hi, d0, d1, hkr⟩ := hi
  dsimp only at hi d0 d1 hkr
  cbv
  refine brkI (fun h0 => ?_) (fun h0 => ?_) <;> try cbv
  · have h0 := ltT hF h0
    have h0 : i < nk := by ((try simp only [Int.ofNat_eq_natCast] at *); omega)
    have hs : i < t.kids.length := by omega
    have hnk : nk = nv + 1 := by omega
    have e2 : pAdd .i64 (Int.ofNat i) 1 = Int.ofNat (i + 1) := add1Is hF (by omega)
    have e3 : pSub .i64 (Int.ofNat dd) 1 = Int.ofNat k := by
      have e := sub1Is hF (i := dd) (by omega) (by omega)
      exact e.trans (by rw [hdd]; rfl)
    have last : ∀ (c : Tr), c = t.kids[i] → ∀ (lo hi : Option ByteArray), CallOK Try.prog 64 [.agg [.y (.sl 1 (c.keys.map rowS)), .y (.sl 1 (c.vals.map rowS)), .y (.sl 3 (c.kids.map Tr.row))], pA lo, pA hi, aN (Int.ofNat k)] (N (lev k c lo hi)) := fun c hc lo hi => ih c (hc ▸ List.getElem_mem hs) lo hi
    simp only [hM] at last
    refine lgetM (l := t.kids) (fun u => [.sl 1 (M rowS u.keys), .sl 1 (M rowS u.vals), .sl 3 (M Tr.row u.kids)]) (fun u => by simp only [Tr.row_eq, hM]) (hM _ _).symm hs fun c hc => ?_
    cbv
    have kc : t.kid i = c := getD_of hs hc
    refine brkI (fun h1 => ?_) (fun h1 => ?_) <;> try cbv
    · have h1' := h1
      have h1 : 0 < i := by have h1 := ltT hF h1; ((try simp only [Int.ofNat_eq_natCast] at *); omega)
      have e4 : pSub .i64 (Int.ofNat i) 1 = Int.ofNat (i - 1) := sub1Is hF h1 (by omega)
      have hs3 : i - 1 < t.keys.length := by omega
      rw [e4]
      refine lgetM (l := t.keys) (fun u => [yS u]) (fun u => by simp only [rowS]) (hM _ _).symm hs3 fun u' hu' => ?_
      cbv
      have gl : t.lowAt (some l) i = some u' := lowAt_pos (by omega) (getD_of hs3 hu')
      try rw [lk]
      refine brkI (fun h2 => ?_) (fun h2 => ?_) <;> try cbv
      · have h2 : i < t.keys.length := by have h2 := ltT hF h2; rw [← hn]; ((try simp only [Int.ofNat_eq_natCast] at *); omega)
        refine lgetM (l := t.keys) (fun u => [yS u]) (fun u => by simp only [rowS]) (hM _ _).symm h2 fun u hu => ?_
        cbv
        have gh : t.highAt none i = some u := highAt_in h2 (getD_of h2 hu)
        rw [e3]
        refine callN hC (last c hc (some u') (some u)) (fun m hm => ?_)
        cbv
        have hf : lev k (t.kid i) (t.lowAt (some l) i) (t.highAt none i) = m := by rw [kc, gl, gh]; exact hm.symm
        clear hm
        rw [show nk - i = (nk - (i + 1)) + 1 from by omega, kidsRun] at hkr
        rw [hf] at hkr
        have hmle : m ≤ k := hf ▸ lev_le
        refine brkI (fun h6 => ?_) (fun h6 => ?_) <;> try cbv
        · have h6 := ltT hF h6
          rw [if_pos (by simp [h6])] at hkr
          refine hK _ _ ?_
          cbv
          exact retN hr (hq.trans (by rw [hkr]; rfl))
        have h6 := ltF hF h6
        refine brT (by assumption) ?_
        try cbv
        refine brkI (fun h7 => ?_) (fun h7 => ?_) <;> try cbv
        · have h7 := eqT hF h7
          rw [if_neg (by simp; omega)] at hkr
          conv => arg 1; cbv
          rw [e2]
          exact ih1 (i + 1, m) _ ⟨by dsimp only; omega, by dsimp only; omega, by dsimp only; omega, hkr⟩ (by dsimp only; omega) rfl
        · have h7 := eqF hF h7
          rw [if_pos (by simp; omega)] at hkr
          refine hK _ _ ?_
          cbv
          exact retN hr (hq.trans (by rw [hkr]; rfl))
      · have h2 : ¬ i < t.keys.length := by have h2 := ltF hF h2; rw [← hn]; ((try simp only [Int.ofNat_eq_natCast] at *); omega)
        have gh : t.highAt none i = none := highAt_out h2
        rw [e3]
        refine callN hC (last c hc (some u') none) (fun m hm => ?_)
        cbv
        have hf : lev k (t.kid i) (t.lowAt (some l) i) (t.highAt none i) = m := by rw [kc, gl, gh]; exact hm.symm
        clear hm
        rw [show nk - i = (nk - (i + 1)) + 1 from by omega, kidsRun] at hkr
        rw [hf] at hkr
        have hmle : m ≤ k := hf ▸ lev_le
        refine brkI (fun h6 => ?_) (fun h6 => ?_) <;> try cbv
        · have h6 := ltT hF h6
          rw [if_pos (by simp [h6])] at hkr
          refine hK _ _ ?_
          cbv
          exact retN hr (hq.trans (by rw [hkr]; rfl))
        have h6 := ltF hF h6
        refine brT (by assumption) ?_
        try cbv
        refine brkI (fun h7 => ?_) (fun h7 => ?_) <;> try cbv
        · have h7 := eqT hF h7
          rw [if_neg (by simp; omega)] at hkr
          conv => arg 1; cbv
          rw [e2]
          exact ih1 (i + 1, m) _ ⟨by dsimp only; omega, by dsimp only; omega, by dsimp only; omega, hkr⟩ (by dsimp only; omega) rfl
        · have h7 := eqF hF h7
          rw [if_pos (by simp; omega)] at hkr
          refine hK _ _ ?_
          cbv
          exact retN hr (hq.trans (by rw [hkr]; rfl))
    · have h1' := h1
      have h1 : i = 0 := by have h1 := ltF hF h1; ((try simp only [Int.ofNat_eq_natCast] at *); omega)
      have gl : t.lowAt (some l) i = (some l) := lowAt_zero h1
      try rw [lk]
      refine brkI (fun h2 => ?_) (fun h2 => ?_) <;> try cbv
      · have h2 : i < t.keys.length := by have h2 := ltT hF h2; rw [← hn]; ((try simp only [Int.ofNat_eq_natCast] at *); omega)
        refine lgetM (l := t.keys) (fun u => [yS u]) (fun u => by simp only [rowS]) (hM _ _).symm h2 fun u hu => ?_
        cbv
        have gh : t.highAt none i = some u := highAt_in h2 (getD_of h2 hu)
        rw [e3]
        refine callN hC (last c hc (some l) (some u)) (fun m hm => ?_)
        cbv
        have hf : lev k (t.kid i) (t.lowAt (some l) i) (t.highAt none i) = m := by rw [kc, gl, gh]; exact hm.symm
        clear hm
        rw [show nk - i = (nk - (i + 1)) + 1 from by omega, kidsRun] at hkr
        rw [hf] at hkr
        have hmle : m ≤ k := hf ▸ lev_le
        refine brkI (fun h6 => ?_) (fun h6 => ?_) <;> try cbv
        · have h6 := ltT hF h6
          rw [if_pos (by simp [h6])] at hkr
          refine hK _ _ ?_
          cbv
          exact retN hr (hq.trans (by rw [hkr]; rfl))
        have h6 := ltF hF h6
        refine brF (by assumption) ?_
        try cbv
        · rw [if_neg (by simp; omega)] at hkr
          conv => arg 1; cbv
          rw [e2]
          exact ih1 (i + 1, m) _ ⟨by dsimp only; omega, by dsimp only; omega, by dsimp only; omega, hkr⟩ (by dsimp only; omega) rfl
      · have h2 : ¬ i < t.keys.length := by have h2 := ltF hF h2; rw [← hn]; ((try simp only [Int.ofNat_eq_natCast] at *); omega)
        have gh : t.highAt none i = none := highAt_out h2
        rw [e3]
        refine callN hC (last c hc (some l) none) (fun m hm => ?_)
        cbv
        have hf : lev k (t.kid i) (t.lowAt (some l) i) (t.highAt none i) = m := by rw [kc, gl, gh]; exact hm.symm
        clear hm
        rw [show nk - i = (nk - (i + 1)) + 1 from by omega, kidsRun] at hkr
        rw [hf] at hkr
        have hmle : m ≤ k := hf ▸ lev_le
        refine brkI (fun h6 => ?_) (fun h6 => ?_) <;> try cbv
        · have h6 := ltT hF h6
          rw [if_pos (by simp [h6])] at hkr
          refine hK _ _ ?_
          cbv
          exact retN hr (hq.trans (by rw [hkr]; rfl))
        have h6 := ltF hF h6
        refine brF (by assumption) ?_
        try cbv
        · rw [if_neg (by simp; omega)] at hkr
          conv => arg 1; cbv
          rw [e2]
          exact ih1 (i + 1, m) _ ⟨by dsimp only; omega, by dsimp only; omega, by dsimp only; omega, hkr⟩ (by dsimp only; omega) rfl
  · have h0 := ltF hF h0
    have hi2 : i = nk := by ((try simp only [Int.ofNat_eq_natCast] at *); omega)
    subst hi2
    rw [Nat.sub_self, kidsRun] at hkr
    have e6 : pAdd .i64 dp 1 = dp + 1 := addIs hF (by omega) (by omega)
    refine hK _ _ ?_
    cbv
    rw [e6]
    exact retN hr (hq.trans (by rw [hkr, upOne, if_neg (by omega)]))
theorem lev_of11 (k : Nat) (t : Tr) (l : ByteArray) (hgh : ByteArray) (hk : k ≤ 20) (b1 : t.keys.length ≤ maxLen) (b2 : t.vals.length ≤ maxLen) (b3 : t.kids.length ≤ maxLen)
    (ih : ∀ c ∈ t.kids, ∀ (lo hi : Option ByteArray), CallOK Try.prog 64 [.agg [.y (.sl 1 (c.keys.map rowS)), .y (.sl 1 (c.vals.map rowS)), .y (.sl 3 (c.kids.map Tr.row))], pA lo, pA hi, aN (Int.ofNat k)] (N (lev k c lo hi))) :
    CallOK Try.prog 64 [.agg [.y (.sl 1 (t.keys.map rowS)), .y (.sl 1 (t.vals.map rowS)), .y (.sl 3 (t.kids.map Tr.row))], .rp [yS l], .rp [yS hgh], aN (Int.ofNat (k + 1))] (N (lev (k + 1) t (some l) (some hgh))) := by
  rw [maxLen_is] at b1 b2 b3
  have hk20 : (k : Int) ≤ 20 := by omega
  obtain ⟨q, hq⟩ : ∃ q, q = lev (k + 1) t (some l) (some hgh) := ⟨_, rfl⟩
  rw [← hq]
  obtain ⟨dd, hdd⟩ : ∃ dd, dd = k + 1 := ⟨_, rfl⟩
  rw [← hdd]
  obtain ⟨n, hn⟩ : ∃ n, n = t.keys.length := ⟨_, rfl⟩
  obtain ⟨nv, hnv⟩ : ∃ n, n = t.vals.length := ⟨_, rfl⟩
  obtain ⟨nk, hnk⟩ : ∃ n, n = t.kids.length := ⟨_, rfl⟩
  obtain ⟨n1, hn1⟩ : ∃ n1, n1 = n + 1 := ⟨_, rfl⟩
  rw [← hn] at b1
  rw [← hnv] at b2
  rw [← hnk] at b3
  obtain ⟨M, hM⟩ := mapEx
  try simp only [hM]
  refine go Try.func64 rfl rfl rfl rfl fun pAdd pSub pMul pQuo pRem pAnd pOr pXor pAndNot pShl pShr pNeg pCompl pConv pLt pLe pEq pSlt pSle pSeq pCat pCatOk pSlen pSsub pSat pIadd pIsub pBnot pBeq pImin pImax pLlen pLsub pLapp pLset pLcopy pLenOk pBytes pRep hF Ca hC r hr => ?_
  cbv
  have lk : pLlen (M rowS t.keys) = Int.ofNat n := (llenIs hF _).trans (by rw [← hM, List.length_map, ← hn]; rfl)
  have lv : pLlen (M rowS t.vals) = Int.ofNat nv := (llenIs hF _).trans (by rw [← hM, List.length_map, ← hnv]; rfl)
  have lkk : pLlen (M Tr.row t.kids) = Int.ofNat nk := (llenIs hF _).trans (by rw [← hM, List.length_map, ← hnk]; rfl)
  rw [lk]
  have noShape : ¬ t.shape false = true → q = -1 := fun h => hq.trans (lev_noHead (head_noShape h))
  refine brkI (fun h0 => ?_) (fun h0 => ?_) <;> try cbv
  · refine retN hr (noShape fun hs => ?_)
    have h0 := ltT hF h0
    simp only [Tr.shape, Bool.and_eq_true, Bool.or_eq_true, decide_eq_true_eq, Bool.false_eq_true, false_or, ← hn] at hs
    ((try simp only [Int.ofNat_eq_natCast] at *); omega)
  refine brkI (fun h1 => ?_) (fun h1 => ?_) <;> try cbv
  · refine retN hr (noShape fun hs => ?_)
    have h1 := ltT hF h1
    simp only [Tr.shape, Bool.and_eq_true, Bool.or_eq_true, decide_eq_true_eq, Bool.false_eq_true, false_or, ← hn] at hs
    ((try simp only [Int.ofNat_eq_natCast] at *); omega)
  have n3 : n ≤ 3 := by have h1 := ltF hF h1; ((try simp only [Int.ofNat_eq_natCast] at *); omega)
  have n0 : 1 ≤ n := by have h0 := ltF hF h0; ((try simp only [Int.ofNat_eq_natCast] at *); omega)
  have e1 : pAdd .i64 (Int.ofNat n) 1 = Int.ofNat n1 := hn1 ▸ add1Is hF (by omega)
  have e5 : pSub .i64 (Int.ofNat n) 1 = Int.ofNat (n - 1) := sub1Is hF (by omega) (by omega)
  have qd : pEq (Int.ofNat dd) 0 = false := mkNe hF (by ((try simp only [Int.ofNat_eq_natCast] at *); omega))
  refine cutG (G := ?G) (H := t.shape false = true) (fun key => ?main) (fun hsh => ?loop)
  case' main =>
    repeat' (first
      | (refine brT (by assumption) ?_; try cbv)
      | (refine brF (by assumption) ?_; try cbv)
      | (simp only [lk, lv, lkk, e1]; refine brkI (fun h => ?_) (fun h => ?_) <;> try cbv)
      | (refine brkI (fun h => ?_) (fun h => ?_) <;> try cbv))
    all_goals first
      | (refine retN hr (noShape fun hs => ?_)
         have lD : ∀ a b, pLt a b = decide (a < b) := ltD hF
         have eD : ∀ a b, pLe a b = decide (a ≤ b) := leD hF
         have qD : ∀ a b, pEq a b = decide (a = b) := eqD hF
         have sD : ∀ a b, pSeq a b = decide (a = b) := seqD hF
         simp only [lD, eD, qD, decide_eq_true_eq, decide_eq_false_iff_not, Int.ofNat_eq_natCast] at *
         simp only [Tr.shape, Bool.and_eq_true, Bool.or_eq_true, decide_eq_true_eq, ← hn, ← hnv, ← hnk] at hs
         clear key ih hq hr noShape
         omega)
      | skip
    all_goals
      have hsh : t.shape false = true := by
        have lD : ∀ a b, pLt a b = decide (a < b) := ltD hF
        have eD : ∀ a b, pLe a b = decide (a ≤ b) := leD hF
        have qD : ∀ a b, pEq a b = decide (a = b) := eqD hF
        have sD : ∀ a b, pSeq a b = decide (a = b) := seqD hF
        simp only [lD, eD, qD, decide_eq_true_eq, decide_eq_false_iff_not, Int.ofNat_eq_natCast] at *
        simp only [Tr.shape, Bool.and_eq_true, Bool.or_eq_true, decide_eq_true_eq, ← hn, ← hnv, ← hnk]
        clear key ih hq hr noShape
        omega
      exact key hsh
  clear noShape h0 h1
  have hnvn : nv = n := by
    simp only [Tr.shape, Bool.and_eq_true, decide_eq_true_eq, ← hn, ← hnv] at hsh
    exact hsh.1.2
  have hnk1 : nk = 0 ∨ nk = n + 1 := by
    simp only [Tr.shape, Bool.and_eq_true, Bool.or_eq_true, decide_eq_true_eq, ← hn, ← hnk] at hsh
    omega
  subst hnvn
  have h20 : ∀ {s : ByteArray}, pLt 20000 (pSlen s) = true → 20000 < s.size := fun {s} h => by have h := ltT hF h; rw [show pSlen s = Int.ofNat s.size from slenIs hF s] at h; ((try simp only [Int.ofNat_eq_natCast] at *); omega)
  have h21 : ∀ {s : ByteArray}, pLt 20000 (pSlen s) = false → ¬ 20000 < s.size := fun {s} h => by have h := ltF hF h; rw [show pSlen s = Int.ofNat s.size from slenIs hF s] at h; ((try simp only [Int.ofNat_eq_natCast] at *); omega)
  try rw [lk]
  refine loop_all (fun a st => st.n 55 (Int.ofNat a)) t.keyOk nv rfl (fun K' hK I i hi hp ih1 => ?_)
  cbv
  refine brkI (fun h0 => ?_) (fun h0 => ?_) <;> try cbv
  · have h0 := ltT hF h0
    have hs : i < t.keys.length := by rw [← hn]; ((try simp only [Int.ofNat_eq_natCast] at *); omega)
    have hs2 : i < t.vals.length := by rw [← hnv]; ((try simp only [Int.ofNat_eq_natCast] at *); omega)
    have e2 : pAdd .i64 (Int.ofNat i) 1 = Int.ofNat (i + 1) := add1Is hF (by omega)
    refine lgetM (l := t.keys) (fun u => [yS u]) (fun u => by simp only [rowS]) (hM _ _).symm hs fun u hu => ?_
    cbv
    have ku : t.key i = u := getD_of hs hu
    refine brkI (fun h1 => ?_) (fun h1 => ?_) <;> try cbv
    · refine hK _ _ ?_
      cbv
      exact retN hr (hq.trans (lev_noHead (head_noKey hs ku (.inl (h20 h1)))))
    refine lgetM (l := t.vals) (fun u => [yS u]) (fun u => by simp only [rowS]) (hM _ _).symm hs2 fun v hv => ?_
    cbv
    have kv : t.val i = v := getD_of hs2 hv
    refine brkI (fun h2 => ?_) (fun h2 => ?_) <;> try cbv
    · refine hK _ _ ?_
      cbv
      exact retN hr (hq.trans (lev_noHead (head_noKey hs ku (.inr (.inl (kv ▸ h20 h2))))))
    have g1 := h21 h1
    have g2 : ¬ 20000 < (t.val i).size := kv ▸ h21 h2
    clear h1 h2
    refine brkI (fun h1 => ?_) (fun h1 => ?_) <;> try cbv
    · have h1 : 0 < i := by have h1 := ltT hF h1; ((try simp only [Int.ofNat_eq_natCast] at *); omega)
      have e4 : pSub .i64 (Int.ofNat i) 1 = Int.ofNat (i - 1) := sub1Is hF h1 (by omega)
      have hs3 : i - 1 < t.keys.length := by omega
      rw [e4]
      refine lgetM (l := t.keys) (fun u => [yS u]) (fun u => by simp only [rowS]) (hM _ _).symm hs3 fun u' hu' => ?_
      cbv
      have ku' : t.key (i - 1) = u' := getD_of hs3 hu'
      refine brkI (fun h2 => ?_) (fun h2 => ?_) <;> try cbv
      · refine hK _ _ ?_
        cbv
        exact retN hr (hq.trans (lev_noHead (head_noKey hs ku (.inr (.inr ⟨by omega, ku' ▸ sleT hF h2⟩)))))
      · conv => arg 1; cbv
        rw [e2]
        exact ih1 _ (by ((try simp only [Int.ofNat_eq_natCast] at *); omega)) (good_key ku g1 g2 (.inr (ku' ▸ sleF hF h2))) rfl
    · conv => arg 1; cbv
      rw [e2]
      exact ih1 _ (by ((try simp only [Int.ofNat_eq_natCast] at *); omega)) (good_key ku g1 g2 (.inl (by have h1 := ltF hF h1; ((try simp only [Int.ofNat_eq_natCast] at *); omega)))) rfl
  have hall : ∀ j, j < t.keys.length → t.keyOk j = true := fun j hj => hp j (by have h0 := ltF hF h0; rw [← hn] at hj; ((try simp only [Int.ofNat_eq_natCast] at *); omega))
  clear ih1 hp h0
  refine hK _ _ ?_
  cbv
  clear hK
  refine lgetM (l := t.keys) (i := 0) (fun u => [yS u]) (fun u => by simp only [rowS]) (hM _ _).symm (by omega) fun u hu => ?_
  cbv
  have ku : t.key 0 = u := getD_of (by omega) hu
  refine brkI (fun h3 => ?_) (fun h3 => ?_) <;> try cbv
  · exact retN hr (hq.trans (lev_noHead (head_noLow (by rw [ku]; exact sleT hF h3))))
  have g4 : lowOk (some l) (t.key 0) = true := by rw [ku]; exact sleF hF h3
  rw [e5]
  refine lgetM (l := t.keys) (i := nv - 1) (fun u => [yS u]) (fun u => by simp only [rowS]) (hM _ _).symm (by omega) fun u2 hu2 => ?_
  cbv
  have ku2 : t.key (t.keys.length - 1) = u2 := by rw [← hn]; exact getD_of (by omega) hu2
  refine brkI (fun h5 => ?_) (fun h5 => ?_) <;> try cbv
  all_goals first
    | (exact retN hr (hq.trans (lev_noHead (head_noHigh (by rw [ku2]; exact sltF hF h5)))))
    | skip
  have g5 : highOk (some hgh) (t.key (t.keys.length - 1)) = true := by rw [ku2]; exact sltT hF h5
  have hq' := hq.trans (lev_head hsh hall g4 g5)
  rw [← hnk] at hq'
  clear hq hsh hall g4 g5
  have hq := hq'
  clear hq'
  obtain ⟨kr, hkr⟩ : ∃ kr, kr = kidsRun (fun i => lev k (t.kid i) (t.lowAt (some l) i) (t.highAt (some hgh) i)) 0 nk 0 := ⟨_, rfl⟩
  rw [← hkr] at hq
  try rw [lkk]
  refine loop_u (α := Nat × Int) (fun a st => (st.n 12 a.2).n 118 (Int.ofNat a.1)) (fun a => a.1 ≤ nk ∧ 0 ≤ a.2 ∧ a.2 ≤ k ∧ kr = kidsRun (fun i => lev k (t.kid i) (t.lowAt (some l) i) (t.highAt (some hgh) i)) a.1 (nk - a.1) a.2) (fun a => nk - a.1) (0, 0) rfl ⟨by omega, by dsimp only; omega, by dsimp only; omega, hkr⟩ (fun K' hK I a hi ih1 => ?_)
  clear hkr
  obtain ⟨i, dp⟩ := a
  obtain ⟨hi, d0, d1, hkr⟩ := hi
  dsimp only at hi d0 d1 hkr
  cbv
  refine brkI (fun h0 => ?_) (fun h0 => ?_) <;> try cbv
  · have h0 := ltT hF h0
    have h0 : i < nk := by ((try simp only [Int.ofNat_eq_natCast] at *); omega)
    have hs : i < t.kids.length := by omega
    have hnk : nk = nv + 1 := by omega
    have e2 : pAdd .i64 (Int.ofNat i) 1 = Int.ofNat (i + 1) := add1Is hF (by omega)
    have e3 : pSub .i64 (Int.ofNat dd) 1 = Int.ofNat k := by
      have e := sub1Is hF (i := dd) (by omega) (by omega)
      exact e.trans (by rw [hdd]; rfl)
    have last : ∀ (c : Tr), c = t.kids[i] → ∀ (lo hi : Option ByteArray), CallOK Try.prog 64 [.agg [.y (.sl 1 (c.keys.map rowS)), .y (.sl 1 (c.vals.map rowS)), .y (.sl 3 (c.kids.map Tr.row))], pA lo, pA hi, aN (Int.ofNat k)] (N (lev k c lo hi)) := fun c hc lo hi => ih c (hc ▸ List.getElem_mem hs) lo hi
    simp only [hM] at last
    refine lgetM (l := t.kids) (fun u => [.sl 1 (M rowS u.keys), .sl 1 (M rowS u.vals), .sl 3 (M Tr.row u.kids)]) (fun u => by simp only [Tr.row_eq, hM]) (hM _ _).symm hs fun c hc => ?_
    cbv
    have kc : t.kid i = c := getD_of hs hc
    refine brkI (fun h1 => ?_) (fun h1 => ?_) <;> try cbv
    · have h1' := h1
      have h1 : 0 < i := by have h1 := ltT hF h1; ((try simp only [Int.ofNat_eq_natCast] at *); omega)
      have e4 : pSub .i64 (Int.ofNat i) 1 = Int.ofNat (i - 1) := sub1Is hF h1 (by omega)
      have hs3 : i - 1 < t.keys.length := by omega
      rw [e4]
      refine lgetM (l := t.keys) (fun u => [yS u]) (fun u => by simp only [rowS]) (hM _ _).symm hs3 fun u' hu' => ?_
      cbv
      have gl : t.lowAt (some l) i = some u' := lowAt_pos (by omega) (getD_of hs3 hu')
      try rw [lk]
      refine brkI (fun h2 => ?_) (fun h2 => ?_) <;> try cbv
      · have h2 : i < t.keys.length := by have h2 := ltT hF h2; rw [← hn]; ((try simp only [Int.ofNat_eq_natCast] at *); omega)
        refine lgetM (l := t.keys) (fun u => [yS u]) (fun u => by simp only [rowS]) (hM _ _).symm h2 fun u hu => ?_
        cbv
        have gh : t.highAt (some hgh) i = some u := highAt_in h2 (getD_of h2 hu)
        rw [e3]
        refine callN hC (last c hc (some u') (some u)) (fun m hm => ?_)
        cbv
        have hf : lev k (t.kid i) (t.lowAt (some l) i) (t.highAt (some hgh) i) = m := by rw [kc, gl, gh]; exact hm.symm
        clear hm
        rw [show nk - i = (nk - (i + 1)) + 1 from by omega, kidsRun] at hkr
        rw [hf] at hkr
        have hmle : m ≤ k := hf ▸ lev_le
        refine brkI (fun h6 => ?_) (fun h6 => ?_) <;> try cbv
        · have h6 := ltT hF h6
          rw [if_pos (by simp [h6])] at hkr
          refine hK _ _ ?_
          cbv
          exact retN hr (hq.trans (by rw [hkr]; rfl))
        have h6 := ltF hF h6
        refine brT (by assumption) ?_
        try cbv
        refine brkI (fun h7 => ?_) (fun h7 => ?_) <;> try cbv
        · have h7 := eqT hF h7
          rw [if_neg (by simp; omega)] at hkr
          conv => arg 1; cbv
          rw [e2]
          exact ih1 (i + 1, m) _ ⟨by dsimp only; omega, by dsimp only; omega, by dsimp only; omega, hkr⟩ (by dsimp only; omega) rfl
        · have h7 := eqF hF h7
          rw [if_pos (by simp; omega)] at hkr
          refine hK _ _ ?_
          cbv
          exact retN hr (hq.trans (by rw [hkr]; rfl))
      · have h2 : ¬ i < t.keys.length := by have h2 := ltF hF h2; rw [← hn]; ((try simp only [Int.ofNat_eq_natCast] at *); omega)
        have gh : t.highAt (some hgh) i = (some hgh) := highAt_out h2
        rw [e3]
        refine callN hC (last c hc (some u') (some hgh)) (fun m hm => ?_)
        cbv
        have hf : lev k (t.kid i) (t.lowAt (some l) i) (t.highAt (some hgh) i) = m := by rw [kc, gl, gh]; exact hm.symm
        clear hm
        rw [show nk - i = (nk - (i + 1)) + 1 from by omega, kidsRun] at hkr
        rw [hf] at hkr
        have hmle : m ≤ k := hf ▸ lev_le
        refine brkI (fun h6 => ?_) (fun h6 => ?_) <;> try cbv
        · have h6 := ltT hF h6
          rw [if_pos (by simp [h6])] at hkr
          refine hK _ _ ?_
          cbv
          exact retN hr (hq.trans (by rw [hkr]; rfl))
        have h6 := ltF hF h6
        refine brT (by assumption) ?_
        try cbv
        refine brkI (fun h7 => ?_) (fun h7 => ?_) <;> try cbv
        · have h7 := eqT hF h7
          rw [if_neg (by simp; omega)] at hkr
          conv => arg 1; cbv
          rw [e2]
          exact ih1 (i + 1, m) _ ⟨by dsimp only; omega, by dsimp only; omega, by dsimp only; omega, hkr⟩ (by dsimp only; omega) rfl
        · have h7 := eqF hF h7
          rw [if_pos (by simp; omega)] at hkr
          refine hK _ _ ?_
          cbv
          exact retN hr (hq.trans (by rw [hkr]; rfl))
    · have h1' := h1
      have h1 : i = 0 := by have h1 := ltF hF h1; ((try simp only [Int.ofNat_eq_natCast] at *); omega)
      have gl : t.lowAt (some l) i = (some l) := lowAt_zero h1
      try rw [lk]
      refine brkI (fun h2 => ?_) (fun h2 => ?_) <;> try cbv
      · have h2 : i < t.keys.length := by have h2 := ltT hF h2; rw [← hn]; ((try simp only [Int.ofNat_eq_natCast] at *); omega)
        refine lgetM (l := t.keys) (fun u => [yS u]) (fun u => by simp only [rowS]) (hM _ _).symm h2 fun u hu => ?_
        cbv
        have gh : t.highAt (some hgh) i = some u := highAt_in h2 (getD_of h2 hu)
        rw [e3]
        refine callN hC (last c hc (some l) (some u)) (fun m hm => ?_)
        cbv
        have hf : lev k (t.kid i) (t.lowAt (some l) i) (t.highAt (some hgh) i) = m := by rw [kc, gl, gh]; exact hm.symm
        clear hm
        rw [show nk - i = (nk - (i + 1)) + 1 from by omega, kidsRun] at hkr
        rw [hf] at hkr
        have hmle : m ≤ k := hf ▸ lev_le
        refine brkI (fun h6 => ?_) (fun h6 => ?_) <;> try cbv
        · have h6 := ltT hF h6
          rw [if_pos (by simp [h6])] at hkr
          refine hK _ _ ?_
          cbv
          exact retN hr (hq.trans (by rw [hkr]; rfl))
        have h6 := ltF hF h6
        refine brF (by assumption) ?_
        try cbv
        · rw [if_neg (by simp; omega)] at hkr
          conv => arg 1; cbv
          rw [e2]
          exact ih1 (i + 1, m) _ ⟨by dsimp only; omega, by dsimp only; omega, by dsimp only; omega, hkr⟩ (by dsimp only; omega) rfl
      · have h2 : ¬ i < t.keys.length := by have h2 := ltF hF h2; rw [← hn]; ((try simp only [Int.ofNat_eq_natCast] at *); omega)
        have gh : t.highAt (some hgh) i = (some hgh) := highAt_out h2
        rw [e3]
        refine callN hC (last c hc (some l) (some hgh)) (fun m hm => ?_)
        cbv
        have hf : lev k (t.kid i) (t.lowAt (some l) i) (t.highAt (some hgh) i) = m := by rw [kc, gl, gh]; exact hm.symm
        clear hm
        rw [show nk - i = (nk - (i + 1)) + 1 from by omega, kidsRun] at hkr
        rw [hf] at hkr
        have hmle : m ≤ k := hf ▸ lev_le
        refine brkI (fun h6 => ?_) (fun h6 => ?_) <;> try cbv
        · have h6 := ltT hF h6
          rw [if_pos (by simp [h6])] at hkr
          refine hK _ _ ?_
          cbv
          exact retN hr (hq.trans (by rw [hkr]; rfl))
        have h6 := ltF hF h6
        refine brF (by assumption) ?_
        try cbv
        · rw [if_neg (by simp; omega)] at hkr
          conv => arg 1; cbv
          rw [e2]
          exact ih1 (i + 1, m) _ ⟨by dsimp only; omega, by dsimp only; omega, by dsimp only; omega, hkr⟩ (by dsimp only; omega) rfl
  · have h0 := ltF hF h0
    have hi2 : i = nk := by ((try simp only [Int.ofNat_eq_natCast] at *); omega)
    subst hi2
    rw [Nat.sub_self, kidsRun] at hkr
    have e6 : pAdd .i64 dp 1 = dp + 1 := addIs hF (by omega) (by omega)
    refine hK _ _ ?_
    cbv
    rw [e6]
    exact retN hr (hq.trans (by rw [hkr, upOne, if_neg (by omega)]))
theorem levN_ok : ∀ (k : Nat) (t : Tr), k ≤ 20 → Tr.Bd maxLen t → ∀ (lo hi : Option ByteArray), CallOK Try.prog 64 [.agg [.y (.sl 1 (t.keys.map rowS)), .y (.sl 1 (t.vals.map rowS)), .y (.sl 3 (t.kids.map Tr.row))], pA lo, pA hi, aN (Int.ofNat k)] (N (lev k t lo hi))
  | 0, t, _, ⟨_, b1, _, _, _, _, _⟩, lo, hi => lev0_ok t lo hi b1
  | k + 1, t, hk, ⟨_, b1, _, b2, _, b3, b4⟩, lo, hi => by
    have ih := fun c hc lo hi => levN_ok k c (by omega) (b4 c hc) lo hi
    cases lo with
    | none => cases hi with
      | none => exact lev_of00 k t (by omega) b1 b2 b3 ih
      | some h => exact lev_of01 k t h (by omega) b1 b2 b3 ih
    | some l => cases hi with
      | none => exact lev_of10 k t l (by omega) b1 b2 b3 ih
      | some h => exact lev_of11 k t l h (by omega) b1 b2 b3 ih
end Go.Proofs.Ythaelohccopgjaa
