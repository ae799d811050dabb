/- Functions of the program, each with what it returns, run by the evaluator; the conditions stand in the theorems. -/
import Derived.Test.YthaelohccopgjaaLTr2
namespace Go.Proofs.Ythaelohccopgjaa
open Go Go.Proofs.YthaelohccopgjaaW Go.Proofs
set_option linter.unusedVariables false
set_option linter.unusedSimpArgs false
set_option maxRecDepth 100000
set_option maxHeartbeats 8000000
/-- One way on, from many places. -/
theorem cutG {G H R : Prop} (f : (H → G) → R) (g : H → G) : R := f g
def optS (b : Bool) (s : ByteArray) : Option ByteArray := if b then some s else none
theorem okT_noShape {d : Nat} {root : Bool} {t : Tr} {lo hi : Option ByteArray} (h : ¬ t.shape root = true) : okT (d + 1) root t lo hi = false := by
  rw [okT, Bool.eq_false_iff.2 h]; rfl
theorem okT_noKeys {d : Nat} {root : Bool} {t : Tr} {lo hi : Option ByteArray} {i : Nat} (h : i < t.keys.length) (hf : ¬ (t.keyOk i && lowOk lo (t.key i) && highOk hi (t.key i)) = true) : okT (d + 1) root t lo hi = false := by
  rw [okT]
  have : allTo (fun i => t.keyOk i && lowOk lo (t.key i) && highOk hi (t.key i)) t.keys.length = false := Bool.eq_false_iff.2 fun e => hf (allTo_iff.1 e i h)
  rw [this, Bool.and_false, Bool.false_and]
theorem okT_noDeep {d : Nat} {root : Bool} {t : Tr} {lo hi : Option ByteArray} (h : ¬ (t.kids.length = 0 ↔ d = 0)) : okT (d + 1) root t lo hi = false := by
  rw [okT]
  have : (decide (t.kids.length = 0) == decide (d = 0)) = false := by
    rw [beq_eq_false_iff_ne]; intro e; apply h
    constructor
    · intro h1; rw [decide_eq_true h1] at e; exact of_decide_eq_true e.symm
    · intro h1; rw [decide_eq_true h1] at e; exact of_decide_eq_true e
  rw [this, Bool.and_false, Bool.false_and, Bool.false_and]
theorem okT_noKid {d : Nat} {root : Bool} {t : Tr} {lo hi : Option ByteArray} {i : Nat} (h : i < t.kids.length) (hf : okT d false (t.kid i) (t.lowAt lo i) (t.highAt hi i) = false) : okT (d + 1) root t lo hi = false := by
  rw [okT]
  have : allTo (fun i => okT d false (t.kid i) (t.lowAt lo i) (t.highAt hi i)) t.kids.length = false := Bool.eq_false_iff.2 fun e => by have := allTo_iff.1 e i h; rw [hf] at this; cases this
  rw [this, Bool.and_false]
theorem okT_yes {d : Nat} {root : Bool} {t : Tr} {lo hi : Option ByteArray} (h1 : t.shape root = true) (h2 : t.kids.length = 0 ↔ d = 0) (h3 : ∀ i, i < t.keys.length → (t.keyOk i && lowOk lo (t.key i) && highOk hi (t.key i)) = true) (h4 : ∀ i, i < t.kids.length → okT d false (t.kid i) (t.lowAt lo i) (t.highAt hi i) = true) : okT (d + 1) root t lo hi = true := by
  rw [okT, h1, allTo_iff.2 h3, allTo_iff.2 h4]
  have : (decide (t.kids.length = 0) == decide (d = 0)) = true := by
    rw [beq_iff_eq, Bool.eq_iff_iff, decide_eq_true_iff, decide_eq_true_iff]; exact h2
  rw [this]; rfl
theorem bad_keys {d : Nat} {root : Bool} {t : Tr} {lo hi : Option ByteArray} {i : Nat} {u : ByteArray} (hs : i < t.keys.length) (ku : t.key i = u)
    (h : 20000 < u.size ∨ 20000 < (t.val i).size ∨ (i ≠ 0 ∧ ltS (t.key (i - 1)) u = false) ∨ lowOk lo u = false ∨ highOk hi u = false) : okT (d + 1) root t lo hi = false := by
  refine okT_noKeys hs fun e => ?_
  simp only [Tr.keyOk, ku, Bool.and_eq_true, Bool.or_eq_true, Bool.not_eq_true', decide_eq_true_eq, decide_eq_false_iff_not] at e
  rcases h with h | h | h | h | h
  · exact e.1.1.1.1 h
  · exact e.1.1.1.2 h
  · rcases e.1.1.2 with h' | h'
    · exact h.1 h'
    · rw [h.2] at h'; cases h'
  · rw [h] at e; exact absurd e.1.2 (by decide)
  · rw [h] at e; exact absurd e.2 (by decide)
theorem good_keys {t : Tr} {lo hi : Option ByteArray} {i : Nat} {u : ByteArray} (ku : t.key i = u) (h1 : ¬ 20000 < u.size) (h2 : ¬ 20000 < (t.val i).size) (h3 : i = 0 ∨ ltS (t.key (i - 1)) u = true) (h4 : lowOk lo u = true) (h5 : highOk hi u = true) :
    (t.keyOk i && lowOk lo (t.key i) && highOk hi (t.key i)) = true := by
  simp only [Tr.keyOk, ku, Bool.and_eq_true, Bool.or_eq_true, Bool.not_eq_true', decide_eq_true_eq, decide_eq_false_iff_not]
  exact ⟨⟨⟨⟨h1, h2⟩, h3⟩, h4⟩, h5⟩
theorem lowAt_pos {t : Tr} {lo : Option ByteArray} {i : Nat} {u : ByteArray} (h : i ≠ 0) (hu : t.key (i - 1) = u) : t.lowAt lo i = some u := by rw [Tr.lowAt, if_neg h, hu]
theorem lowAt_zero {t : Tr} {lo : Option ByteArray} {i : Nat} (h : i = 0) : t.lowAt lo i = lo := by rw [Tr.lowAt, if_pos h]
theorem highAt_in {t : Tr} {lo : Option ByteArray} {i : Nat} {u : ByteArray} (h : i < t.keys.length) (hu : t.key i = u) : t.highAt lo i = some u := by rw [Tr.highAt, if_pos h, hu]
theorem highAt_out {t : Tr} {lo : Option ByteArray} {i : Nat} (h : ¬ i < t.keys.length) : t.highAt lo i = lo := by rw [Tr.highAt, if_neg h]
theorem ok_of (d : Nat) (root : Bool) (t : Tr) (l hgh : ByteArray) (hl hh : Bool) (hd : d ≤ 20) (b1 : t.keys.length ≤ maxLen) (b2 : t.vals.length ≤ maxLen) (b3 : t.kids.length ≤ maxLen)
    (ih : 1 ≤ d → ∀ c ∈ t.kids, ∀ (l h : ByteArray) (hl hh : Bool), CallOK Try.prog 38 [.agg [.y (.sl 1 (c.keys.map rowS)), .y (.sl 1 (c.vals.map rowS)), .y (.sl 3 (c.kids.map Tr.row))], aB false, aN (Int.ofNat d), aS l, aB hl, aS h, aB hh] (B (okT d false c (optS hl l) (optS hh h)))) :
    CallOK Try.prog 38 [.agg [.y (.sl 1 (t.keys.map rowS)), .y (.sl 1 (t.vals.map rowS)), .y (.sl 3 (t.kids.map Tr.row))], aB root, aN (Int.ofNat (d + 1)), aS l, aB hl, aS hgh, aB hh] (B (okT (d + 1) root t (optS hl l) (optS hh hgh))) := by
  rw [maxLen_is] at b1 b2 b3
  obtain ⟨q, hq⟩ : ∃ q, q = okT (d + 1) root t (optS hl l) (optS hh hgh) := ⟨_, rfl⟩
  rw [← hq]
  obtain ⟨dd, hdd⟩ : ∃ dd, dd = d + 1 := ⟨_, rfl⟩
  rw [← hdd]
  obtain ⟨n, hn⟩ : ∃ n, n = t.keys.length := ⟨_, rfl⟩
  obtain ⟨nv, hnv⟩ : ∃ n, n = t.vals.length := ⟨_, rfl⟩
  obtain ⟨nk, hnk⟩ : ∃ n, n = t.kids.length := ⟨_, rfl⟩
  obtain ⟨n1, hn1⟩ : ∃ n1, n1 = n + 1 := ⟨_, rfl⟩
  rw [← hn] at b1
  rw [← hnv] at b2
  rw [← hnk] at b3
  obtain ⟨M, hM⟩ := mapEx
  try simp only [hM]
  refine go Try.func38 rfl rfl rfl rfl fun pAdd pSub pMul pQuo pRem pAnd pOr pXor pAndNot pShl pShr pNeg pCompl pConv pLt pLe pEq pSlt pSle pSeq pCat pCatOk pSlen pSsub pSat pIadd pIsub pBnot pBeq pImin pImax pLlen pLsub pLapp pLset pLcopy pLenOk pBytes pRep hF Ca hC r hr => ?_
  cbv
  have lk : pLlen (M rowS t.keys) = Int.ofNat n := (llenIs hF _).trans (by rw [← hM, List.length_map, ← hn]; rfl)
  have lv : pLlen (M rowS t.vals) = Int.ofNat nv := (llenIs hF _).trans (by rw [← hM, List.length_map, ← hnv]; rfl)
  have lkk : pLlen (M Tr.row t.kids) = Int.ofNat nk := (llenIs hF _).trans (by rw [← hM, List.length_map, ← hnk]; rfl)
  rw [lk]
  refine brkI (fun h0 => ?_) (fun h0 => ?_) <;> try cbv
  · refine retB hr (hq.trans (okT_noShape fun hs => ?_))
    have h0 := ltT hF h0
    simp only [Tr.shape, Bool.and_eq_true, decide_eq_true_eq, ← hn] at hs
    ((try simp only [Int.ofNat_eq_natCast] at *); omega)
  have n3 : n ≤ 3 := by have h0 := ltF hF h0; ((try simp only [Int.ofNat_eq_natCast] at *); omega)
  have e1 : pAdd .i64 (Int.ofNat n) 1 = Int.ofNat n1 := hn1 ▸ add1Is hF (by omega)
  refine cutG (G := ?G) (H := t.shape root = true ∧ (nk = 0 ↔ d = 0) ∧ nv = n) (fun key => ?main) (fun hk => ?loop)
  case' main =>
    repeat' (first
      | (refine brT (by assumption) ?_; try cbv)
      | (refine brF (by assumption) ?_; try cbv)
      | (simp only [lk, lv, lkk, e1]; refine brkI (fun h => ?_) (fun h => ?_) <;> try cbv)
      | (refine brkI (fun h => ?_) (fun h => ?_) <;> try cbv)
      | (refine brI (fun h => ?_) (fun h => ?_) <;> try cbv))
    all_goals first
      | (refine retB hr (hq.trans (okT_noShape fun hs => ?_))
         have lD : ∀ a b, pLt a b = decide (a < b) := ltD hF
         have eD : ∀ a b, pLe a b = decide (a ≤ b) := leD hF
         have qD : ∀ a b, pEq a b = decide (a = b) := eqD hF
         have sD : ∀ a b, pSeq a b = decide (a = b) := seqD hF
         simp only [lD, eD, qD, decide_eq_true_eq, decide_eq_false_iff_not, Int.ofNat_eq_natCast] at *
         simp only [Tr.shape, Bool.and_eq_true, Bool.or_eq_true, decide_eq_true_eq, ← hn, ← hnv, ← hnk] at hs
         clear key ih hq hr
         first | omega | (cases root <;> simp_all <;> omega))
      | (refine retB hr (hq.trans (okT_noDeep fun hs => ?_))
         have lD : ∀ a b, pLt a b = decide (a < b) := ltD hF
         have eD : ∀ a b, pLe a b = decide (a ≤ b) := leD hF
         have qD : ∀ a b, pEq a b = decide (a = b) := eqD hF
         have sD : ∀ a b, pSeq a b = decide (a = b) := seqD hF
         simp only [lD, eD, qD, decide_eq_true_eq, decide_eq_false_iff_not, Int.ofNat_eq_natCast] at *
         rw [← hnk] at hs
         clear key ih hq hr
         omega)
      | skip
    all_goals
      have hsh : t.shape root = true := by
        have lD : ∀ a b, pLt a b = decide (a < b) := ltD hF
        have eD : ∀ a b, pLe a b = decide (a ≤ b) := leD hF
        have qD : ∀ a b, pEq a b = decide (a = b) := eqD hF
        have sD : ∀ a b, pSeq a b = decide (a = b) := seqD hF
        simp only [lD, eD, qD, decide_eq_true_eq, decide_eq_false_iff_not, Int.ofNat_eq_natCast] at *
        simp only [Tr.shape, Bool.and_eq_true, Bool.or_eq_true, decide_eq_true_eq, ← hn, ← hnv, ← hnk]
        clear key ih hq hr
        first | (simp_all; done) | (simp_all; omega) | grind
      have hz : nk = 0 ↔ d = 0 := by
        have lD : ∀ a b, pLt a b = decide (a < b) := ltD hF
        have eD : ∀ a b, pLe a b = decide (a ≤ b) := leD hF
        have qD : ∀ a b, pEq a b = decide (a = b) := eqD hF
        have sD : ∀ a b, pSeq a b = decide (a = b) := seqD hF
        simp only [lD, eD, qD, decide_eq_true_eq, decide_eq_false_iff_not, Int.ofNat_eq_natCast] at *
        clear key ih hq hr
        omega
      exact key ⟨hsh, hz, (by
        simp only [Tr.shape, Bool.and_eq_true, decide_eq_true_eq, ← hn, ← hnv] at hsh
        exact hsh.1.2)⟩
  obtain ⟨hsh, hz, hnvn⟩ := hk
  subst hnvn
  clear h0
  have h20 : ∀ {s : ByteArray}, pLt 20000 (pSlen s) = true → 20000 < s.size := fun {s} h => by have h := ltT hF h; rw [show pSlen s = Int.ofNat s.size from slenIs hF s] at h; ((try simp only [Int.ofNat_eq_natCast] at *); omega)
  have h21 : ∀ {s : ByteArray}, pLt 20000 (pSlen s) = false → ¬ 20000 < s.size := fun {s} h => by have h := ltF hF h; rw [show pSlen s = Int.ofNat s.size from slenIs hF s] at h; ((try simp only [Int.ofNat_eq_natCast] at *); omega)
  refine loop_all (fun a st => st.n 16 (Int.ofNat a)) (fun i => t.keyOk i && lowOk (optS hl l) (t.key i) && highOk (optS hh hgh) (t.key i)) nv rfl (fun K' hK I i hi hp ih1 => ?_)
  cbv
  refine brkI (fun h0 => ?_) (fun h0 => ?_) <;> try cbv
  · have h0 := ltT hF h0
    have hs : i < t.keys.length := by rw [← hn]; ((try simp only [Int.ofNat_eq_natCast] at *); omega)
    have hs2 : i < t.vals.length := by rw [← hnv]; ((try simp only [Int.ofNat_eq_natCast] at *); omega)
    have e2 : pAdd .i64 (Int.ofNat i) 1 = Int.ofNat (i + 1) := add1Is hF (by omega)
    refine lgetM (l := t.keys) (fun u => [yS u]) (fun u => by simp only [rowS]) (hM _ _).symm hs fun u hu => ?_
    cbv
    have ku : t.key i = u := getD_of hs hu
    refine brkI (fun h1 => ?_) (fun h1 => ?_) <;> try cbv
    · refine hK _ _ ?_
      cbv
      exact retB hr (hq.trans (bad_keys hs ku (.inl (h20 h1))))
    refine lgetM (l := t.vals) (fun u => [yS u]) (fun u => by simp only [rowS]) (hM _ _).symm hs2 fun v hv => ?_
    cbv
    have kv : t.val i = v := getD_of hs2 hv
    refine brkI (fun h2 => ?_) (fun h2 => ?_) <;> try cbv
    · refine hK _ _ ?_
      cbv
      exact retB hr (hq.trans (bad_keys hs ku (.inr (.inl (kv ▸ h20 h2)))))
    have g1 := h21 h1
    have g2 : ¬ 20000 < (t.val i).size := kv ▸ h21 h2
    clear h1 h2
    have last : ∀ (h3 : i = 0 ∨ ltS (t.key (i - 1)) u = true) (h4 : lowOk (optS hl l) u = true) (h5 : highOk (optS hh hgh) u = true), (t.keyOk i && lowOk (optS hl l) (t.key i) && highOk (optS hh hgh) (t.key i)) = true := fun h3 h4 h5 => good_keys ku g1 g2 h3 h4 h5
    refine brkI (fun h1 => ?_) (fun h1 => ?_) <;> try cbv
    · have h1 : 0 < i := by have h1 := ltT hF h1; ((try simp only [Int.ofNat_eq_natCast] at *); omega)
      have e4 : pSub .i64 (Int.ofNat i) 1 = Int.ofNat (i - 1) := sub1Is hF h1 (by omega)
      have hs3 : i - 1 < t.keys.length := by omega
      rw [e4]
      refine lgetM (l := t.keys) (fun u => [yS u]) (fun u => by simp only [rowS]) (hM _ _).symm hs3 fun u' hu' => ?_
      cbv
      have ku' : t.key (i - 1) = u' := getD_of hs3 hu'
      refine brkI (fun h2 => ?_) (fun h2 => ?_) <;> try cbv
      all_goals first
        | (refine hK _ _ ?_
           cbv
           exact retB hr (hq.trans (bad_keys hs ku (.inr (.inr (.inl ⟨by omega, ku' ▸ sltF hF h2⟩))))))
        | skip
      have g3 : i = 0 ∨ ltS (t.key (i - 1)) u = true := .inr (ku' ▸ sltT hF h2)
      cases hl <;> cbv
      all_goals first
        | (refine brkI (fun h3 => ?_) (fun h3 => ?_) <;> try cbv
           all_goals first
             | (refine hK _ _ ?_
                cbv
                exact retB hr (hq.trans (bad_keys hs ku (.inr (.inr (.inr (.inl (sleT hF h3))))))))
             | skip
           have g4 : lowOk (optS true l) u = true := sleF hF h3
           cases hh <;> cbv
           all_goals first
             | (refine brkI (fun h3 => ?_) (fun h3 => ?_) <;> try cbv
                all_goals first
                  | (refine hK _ _ ?_
                     cbv
                     exact retB hr (hq.trans (bad_keys hs ku (.inr (.inr (.inr (.inr (sltF hF h3))))))))
                  | skip
                have g5 : highOk (optS true hgh) u = true := sltT hF h3
                conv => arg 1; cbv
                rw [e2]
                exact ih1 _ (by ((try simp only [Int.ofNat_eq_natCast] at *); omega)) (last g3 g4 g5) rfl)
             | (have g5 : highOk (optS false hgh) u = true := rfl
                conv => arg 1; cbv
                rw [e2]
                exact ih1 _ (by ((try simp only [Int.ofNat_eq_natCast] at *); omega)) (last g3 g4 g5) rfl))
        | (have g4 : lowOk (optS false l) u = true := rfl
           cases hh <;> cbv
           all_goals first
             | (refine brkI (fun h3 => ?_) (fun h3 => ?_) <;> try cbv
                all_goals first
                  | (refine hK _ _ ?_
                     cbv
                     exact retB hr (hq.trans (bad_keys hs ku (.inr (.inr (.inr (.inr (sltF hF h3))))))))
                  | skip
                have g5 : highOk (optS true hgh) u = true := sltT hF h3
                conv => arg 1; cbv
                rw [e2]
                exact ih1 _ (by ((try simp only [Int.ofNat_eq_natCast] at *); omega)) (last g3 g4 g5) rfl)
             | (have g5 : highOk (optS false hgh) u = true := rfl
                conv => arg 1; cbv
                rw [e2]
                exact ih1 _ (by ((try simp only [Int.ofNat_eq_natCast] at *); omega)) (last g3 g4 g5) rfl))
    · have g3 : i = 0 ∨ ltS (t.key (i - 1)) u = true := .inl (by have h1 := ltF hF h1; ((try simp only [Int.ofNat_eq_natCast] at *); omega))
      cases hl <;> cbv
      all_goals first
        | (refine brkI (fun h3 => ?_) (fun h3 => ?_) <;> try cbv
           all_goals first
             | (refine hK _ _ ?_
                cbv
                exact retB hr (hq.trans (bad_keys hs ku (.inr (.inr (.inr (.inl (sleT hF h3))))))))
             | skip
           have g4 : lowOk (optS true l) u = true := sleF hF h3
           cases hh <;> cbv
           all_goals first
             | (refine brkI (fun h3 => ?_) (fun h3 => ?_) <;> try cbv
                all_goals first
                  | (refine hK _ _ ?_
                     cbv
                     exact retB hr (hq.trans (bad_keys hs ku (.inr (.inr (.inr (.inr (sltF hF h3))))))))
                  | skip
                have g5 : highOk (optS true hgh) u = true := sltT hF h3
                conv => arg 1; cbv
                rw [e2]
                exact ih1 _ (by ((try simp only [Int.ofNat_eq_natCast] at *); omega)) (last g3 g4 g5) rfl)
             | (have g5 : highOk (optS false hgh) u = true := rfl
                conv => arg 1; cbv
                rw [e2]
                exact ih1 _ (by ((try simp only [Int.ofNat_eq_natCast] at *); omega)) (last g3 g4 g5) rfl))
        | (have g4 : lowOk (optS false l) u = true := rfl
           cases hh <;> cbv
           all_goals first
             | (refine brkI (fun h3 => ?_) (fun h3 => ?_) <;> try cbv
                all_goals first
                  | (refine hK _ _ ?_
                     cbv
                     exact retB hr (hq.trans (bad_keys hs ku (.inr (.inr (.inr (.inr (sltF hF h3))))))))
                  | skip
                have g5 : highOk (optS true hgh) u = true := sltT hF h3
                conv => arg 1; cbv
                rw [e2]
                exact ih1 _ (by ((try simp only [Int.ofNat_eq_natCast] at *); omega)) (last g3 g4 g5) rfl)
             | (have g5 : highOk (optS false hgh) u = true := rfl
                conv => arg 1; cbv
                rw [e2]
                exact ih1 _ (by ((try simp only [Int.ofNat_eq_natCast] at *); omega)) (last g3 g4 g5) rfl))
  · have hall : ∀ j, j < t.keys.length → (t.keyOk j && lowOk (optS hl l) (t.key j) && highOk (optS hh hgh) (t.key j)) = true := fun j hj => hp j (by have h0 := ltF hF h0; rw [← hn] at hj; ((try simp only [Int.ofNat_eq_natCast] at *); omega))
    clear ih1 hp
    refine hK _ _ ?_
    cbv
    clear hK
    refine loop_all (fun a st => st.n 18 (Int.ofNat a)) (fun i => okT d false (t.kid i) (t.lowAt (optS hl l) i) (t.highAt (optS hh hgh) i)) nk rfl (fun K' hK I i hi hp ih1 => ?_)
    cbv
    rw [lkk]
    refine brkI (fun h0 => ?_) (fun h0 => ?_) <;> try cbv
    · have h0 := ltT hF h0
      have h0 : i < nk := by ((try simp only [Int.ofNat_eq_natCast] at *); omega)
      have hs : i < t.kids.length := by omega
      have hd1 : 1 ≤ d := by omega
      have hnk : nk = nv + 1 := by
        simp only [Tr.shape, Bool.and_eq_true, Bool.or_eq_true, decide_eq_true_eq, ← hn, ← hnk] at hsh
        omega
      have e2 : pAdd .i64 (Int.ofNat i) 1 = Int.ofNat (i + 1) := add1Is hF (by omega)
      have e3 : pSub .i64 (Int.ofNat dd) 1 = Int.ofNat d := by
        have e := sub1Is hF (i := dd) (by omega) (by omega)
        exact e.trans (by rw [hdd]; rfl)
      have last : ∀ (c : Tr), c = t.kids[i] → ∀ (L H : ByteArray) (HL HH : Bool), CallOK Try.prog 38 [.agg [.y (.sl 1 (c.keys.map rowS)), .y (.sl 1 (c.vals.map rowS)), .y (.sl 3 (c.kids.map Tr.row))], aB false, aN (Int.ofNat d), aS L, aB HL, aS H, aB HH] (B (okT d false c (optS HL L) (optS HH H))) := fun c hc L H HL HH => ih hd1 c (hc ▸ List.getElem_mem hs) L H HL HH
      simp only [hM] at last
      refine brkI (fun h1 => ?_) (fun h1 => ?_) <;> try cbv
      · have h1 : 0 < i := by have h1 := ltT hF h1; ((try simp only [Int.ofNat_eq_natCast] at *); omega)
        have e4 : pSub .i64 (Int.ofNat i) 1 = Int.ofNat (i - 1) := sub1Is hF h1 (by omega)
        have hs3 : i - 1 < t.keys.length := by omega
        rw [e4]
        refine lgetM (l := t.keys) (fun u => [yS u]) (fun u => by simp only [rowS]) (hM _ _).symm hs3 fun u' hu' => ?_
        cbv
        have gl : t.lowAt (optS hl l) i = optS true u' := lowAt_pos (by omega) (getD_of hs3 hu')
        try rw [lk]
        refine brkI (fun h2 => ?_) (fun h2 => ?_) <;> try cbv
        · have h2 : i < t.keys.length := by have h2 := ltT hF h2; rw [← hn]; ((try simp only [Int.ofNat_eq_natCast] at *); omega)
          refine lgetM (l := t.keys) (fun u => [yS u]) (fun u => by simp only [rowS]) (hM _ _).symm h2 fun u hu => ?_
          cbv
          have gh : t.highAt (optS hh hgh) i = optS true u := highAt_in h2 (getD_of h2 hu)
          refine lgetM (l := t.kids) (fun u => [.sl 1 (M rowS u.keys), .sl 1 (M rowS u.vals), .sl 3 (M Tr.row u.kids)]) (fun u => by simp only [Tr.row_eq, hM]) (hM _ _).symm hs fun c hc => ?_
          cbv
          rw [e3]
          have kc : t.kid i = c := getD_of hs hc
          refine callB hC (last c hc _ _ _ _) (fun h4 => ?_) (fun h4 => ?_) <;> try cbv
          · conv => arg 1; cbv
            rw [e2]
            exact ih1 _ h0 (by rw [kc, gl, gh]; exact h4) rfl
          · refine hK _ _ ?_
            cbv
            exact retB hr (hq.trans (okT_noKid hs (by rw [kc, gl, gh]; exact h4)))
        · have h2 : ¬ i < t.keys.length := by have h2 := ltF hF h2; rw [← hn]; ((try simp only [Int.ofNat_eq_natCast] at *); omega)
          have gh : t.highAt (optS hh hgh) i = optS hh hgh := highAt_out h2
          refine lgetM (l := t.kids) (fun u => [.sl 1 (M rowS u.keys), .sl 1 (M rowS u.vals), .sl 3 (M Tr.row u.kids)]) (fun u => by simp only [Tr.row_eq, hM]) (hM _ _).symm hs fun c hc => ?_
          cbv
          rw [e3]
          have kc : t.kid i = c := getD_of hs hc
          refine callB hC (last c hc _ _ _ _) (fun h4 => ?_) (fun h4 => ?_) <;> try cbv
          · conv => arg 1; cbv
            rw [e2]
            exact ih1 _ h0 (by rw [kc, gl, gh]; exact h4) rfl
          · refine hK _ _ ?_
            cbv
            exact retB hr (hq.trans (okT_noKid hs (by rw [kc, gl, gh]; exact h4)))
      · have h1 : i = 0 := by have h1 := ltF hF h1; ((try simp only [Int.ofNat_eq_natCast] at *); omega)
        have gl : t.lowAt (optS hl l) i = optS hl l := lowAt_zero h1
        try rw [lk]
        refine brkI (fun h2 => ?_) (fun h2 => ?_) <;> try cbv
        · have h2 : i < t.keys.length := by have h2 := ltT hF h2; rw [← hn]; ((try simp only [Int.ofNat_eq_natCast] at *); omega)
          refine lgetM (l := t.keys) (fun u => [yS u]) (fun u => by simp only [rowS]) (hM _ _).symm h2 fun u hu => ?_
          cbv
          have gh : t.highAt (optS hh hgh) i = optS true u := highAt_in h2 (getD_of h2 hu)
          refine lgetM (l := t.kids) (fun u => [.sl 1 (M rowS u.keys), .sl 1 (M rowS u.vals), .sl 3 (M Tr.row u.kids)]) (fun u => by simp only [Tr.row_eq, hM]) (hM _ _).symm hs fun c hc => ?_
          cbv
          rw [e3]
          have kc : t.kid i = c := getD_of hs hc
          refine callB hC (last c hc _ _ _ _) (fun h4 => ?_) (fun h4 => ?_) <;> try cbv
          · conv => arg 1; cbv
            rw [e2]
            exact ih1 _ h0 (by rw [kc, gl, gh]; exact h4) rfl
          · refine hK _ _ ?_
            cbv
            exact retB hr (hq.trans (okT_noKid hs (by rw [kc, gl, gh]; exact h4)))
        · have h2 : ¬ i < t.keys.length := by have h2 := ltF hF h2; rw [← hn]; ((try simp only [Int.ofNat_eq_natCast] at *); omega)
          have gh : t.highAt (optS hh hgh) i = optS hh hgh := highAt_out h2
          refine lgetM (l := t.kids) (fun u => [.sl 1 (M rowS u.keys), .sl 1 (M rowS u.vals), .sl 3 (M Tr.row u.kids)]) (fun u => by simp only [Tr.row_eq, hM]) (hM _ _).symm hs fun c hc => ?_
          cbv
          rw [e3]
          have kc : t.kid i = c := getD_of hs hc
          refine callB hC (last c hc _ _ _ _) (fun h4 => ?_) (fun h4 => ?_) <;> try cbv
          · conv => arg 1; cbv
            rw [e2]
            exact ih1 _ h0 (by rw [kc, gl, gh]; exact h4) rfl
          · refine hK _ _ ?_
            cbv
            exact retB hr (hq.trans (okT_noKid hs (by rw [kc, gl, gh]; exact h4)))
    · have hkall : ∀ j, j < t.kids.length → okT d false (t.kid j) (t.lowAt (optS hl l) j) (t.highAt (optS hh hgh) j) = true := fun j hj => hp j (by have h0 := ltF hF h0; rw [← hnk] at hj; ((try simp only [Int.ofNat_eq_natCast] at *); omega))
      refine hK _ _ ?_
      cbv
      exact retB hr (hq.trans (okT_yes hsh (hnk ▸ hz) hall hkall))
theorem okN_ok : ∀ (d : Nat) (root : Bool) (t : Tr), d ≤ 20 → Tr.Bd maxLen t → ∀ (l hgh : ByteArray) (hl hh : Bool), CallOK Try.prog 38 [.agg [.y (.sl 1 (t.keys.map rowS)), .y (.sl 1 (t.vals.map rowS)), .y (.sl 3 (t.kids.map Tr.row))], aB root, aN (Int.ofNat (d + 1)), aS l, aB hl, aS hgh, aB hh] (B (okT (d + 1) root t (optS hl l) (optS hh hgh)))
  | 0, root, t, hd, ⟨_, b1, _, b2, _, b3, _⟩, l, hgh, hl, hh => ok_of 0 root t l hgh hl hh hd b1 b2 b3 (fun h => absurd h (by omega))
  | d + 1, root, t, hd, ⟨_, b1, _, b2, _, b3, b4⟩, l, hgh, hl, hh => ok_of (d + 1) root t l hgh hl hh hd b1 b2 b3 (fun _ c hc l h hl hh => okN_ok d false c (by omega) (b4 c hc) l h hl hh)
theorem deep_pos (t : Tr) : 1 ≤ deepT 13 t ∧ deepT 13 t ≤ 13 := by
  have key : ∀ m (t : Tr), deepT m t ≤ m := fun m => by
    induction m with
    | zero => intro t; exact Nat.le_refl _
    | succ m ih => intro t; rw [deepT]; split
                   · omega
                   · have := ih (t.kid 0); omega
  refine ⟨?_, key 13 t⟩
  rw [deepT]; split <;> omega
theorem sTreeRight_ok (t : Tr) (hb : Tr.Bd maxLen t) : CallOK Try.prog 9 [.agg [.y (.sl 1 (t.keys.map rowS)), .y (.sl 1 (t.vals.map rowS)), .y (.sl 3 (t.kids.map Tr.row))]] (B (rightT t)) := by
  have c1 := deep_ok t
  have hp := deep_pos t
  obtain ⟨n, hn⟩ : ∃ n, n = deepT 13 t := ⟨_, rfl⟩
  rw [← hn] at c1 hp
  have c2 := okN_ok (n - 1) true t (by omega) hb ⟨⟨[]⟩⟩ ⟨⟨[]⟩⟩ false false
  rw [show n - 1 + 1 = n from by omega, hn, show okT (deepT 13 t) true t (optS false ⟨⟨[]⟩⟩) (optS false ⟨⟨[]⟩⟩) = okT (deepT 13 t) true t none none from rfl, ← hn] at c2
  obtain ⟨b, hb'⟩ : ∃ b, b = okT n true t none none := ⟨_, rfl⟩
  rw [← hb'] at c2
  obtain ⟨q, hq⟩ : ∃ q, q = rightT t := ⟨_, rfl⟩
  have hq' : q = (decide (n ≤ 12) && b) := by rw [hq, rightT, ← hn, ← hb']
  rw [← hq]
  obtain ⟨M, hM⟩ := mapEx
  try simp only [hM]
  refine go Try.func9 rfl rfl rfl rfl fun pAdd pSub pMul pQuo pRem pAnd pOr pXor pAndNot pShl pShr pNeg pCompl pConv pLt pLe pEq pSlt pSle pSeq pCat pCatOk pSlen pSsub pSat pIadd pIsub pBnot pBeq pImin pImax pLlen pLsub pLapp pLset pLcopy pLenOk pBytes pRep hF Ca hC r hr => ?_
  cbv
  refine callN hC (by have hh := c1; (try simp only [hM] at hh); exact hh) (fun m hm => ?_)
  cbv
  subst hm
  refine brkI (fun h => ?_) (fun h => ?_) <;> try cbv
  · have h := leT hF h
    refine callB hC (by have hh := c2; (try simp only [hM] at hh); exact hh) (fun h1 => ?_) (fun h1 => ?_) <;> try cbv
    all_goals exact retB hr (by rw [hq', h1, decide_eq_true (by ((try simp only [Int.ofNat_eq_natCast] at *); omega))]; rfl)
  · have h := leF hF h
    exact retB hr (by rw [hq', decide_eq_false (by ((try simp only [Int.ofNat_eq_natCast] at *); omega))]; rfl)
end Go.Proofs.Ythaelohccopgjaa
