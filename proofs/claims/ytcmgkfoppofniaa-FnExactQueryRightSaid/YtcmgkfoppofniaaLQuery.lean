/- Functions of the program, each with what it returns, run by the evaluator; the conditions stand in the theorems. -/
import Derived.Test.YtcmgkfoppofniaaLVal
import Derived.Test.YtcmgkfoppofniaaV4
namespace Go.Proofs.Ytcmgkfoppofniaa
open Go Go.Proofs.YtcmgkfoppofniaaW Go.Proofs
set_option linter.unusedVariables false
set_option linter.unusedSimpArgs false
set_option maxRecDepth 100000
set_option maxHeartbeats 8000000
/-! texts cut at a dot -/
def dotAt (s : ByteArray) (i : Nat) : Bool := decide (prims.sat s i = 46)
def cutF (s : ByteArray) : Nat → Nat
  | 0 => 0
  | i + 1 => if dotAt s i then i + 1 else cutF s i
def cutL (s : ByteArray) : Nat → List ByteArray
  | 0 => []
  | i + 1 => if dotAt s i then cutL s i ++ [s.extract (cutF s i) i] else cutL s i
def splitL (s : ByteArray) : List ByteArray := cutL s s.size ++ [s.extract (cutF s s.size) s.size]
theorem cutF_le (s : ByteArray) : ∀ i, cutF s i ≤ i
  | 0 => Nat.le_refl _
  | i + 1 => by rw [cutF]; split; exact Nat.le_refl _; exact Nat.le_succ_of_le (cutF_le s i)
theorem cutL_len (s : ByteArray) : ∀ i, (cutL s i).length ≤ i
  | 0 => Nat.le_refl _
  | i + 1 => by rw [cutL]; split; rw [List.length_append]; exact Nat.succ_le_succ (cutL_len s i); exact Nat.le_succ_of_le (cutL_len s i)
theorem lappRow' {F : Prims} (hF : prims = F) {α : Type} {row : α → List Y} {l : List α} {xs : List (List Y)} (hx : xs = l.map row) (v : α) : F.lapp xs [row v] = (l ++ [v]).map row := by
  subst hF hx; show l.map row ++ [row v] = _; rw [List.map_append]; rfl
theorem appOk' {F : Prims} (hF : prims = F) {xs ys : List (List Y)} (h : xs.length + ys.length ≤ 4294967296) : F.lenOk (F.iadd (F.llen xs) (F.llen ys)) = true := by
  subst hF; exact decide_eq_true (by show (xs.length : Int) + (ys.length : Int) ≤ 4294967296; omega)
theorem ssubIs {F : Prims} (hF : prims = F) (s : ByteArray) (a b : Nat) : F.ssub s (Int.ofNat a) (Int.ofNat b) = s.extract a b := by subst hF; rfl
theorem satIs {F : Prims} (hF : prims = F) (s : ByteArray) (i : Int) : prims.sat s i = F.sat s i := by rw [hF]
theorem leSlen {F : Prims} (hF : prims = F) {i : Nat} {s : ByteArray} (h : i ≤ s.size) : F.le (Int.ofNat i) (F.slen s) = true := mkLe hF (by rw [slenIs hF s]; exact Int.ofNat_le.2 h)
theorem leNat {F : Prims} (hF : prims = F) {i j : Nat} (h : i ≤ j) : F.le (Int.ofNat i) (Int.ofNat j) = true := mkLe hF (Int.ofNat_le.2 h)
theorem split_ok (s : ByteArray) (hs : s.size ≤ 1048576) : CallOK Try.prog 170 [aS s, .c (.y (.sc (.int .u8 46)))] ⟨.c (.own 1 ((splitL s).map rowS)), []⟩ := by
  obtain ⟨q, hq⟩ : ∃ q, q = (splitL s).map rowS := ⟨_, rfl⟩
  rw [← hq]
  obtain ⟨M, hM⟩ := mapEx
  try simp only [hM]
  refine go Try.func170 rfl rfl rfl rfl fun pAdd pSub pMul pQuo pRem pAnd pOr pXor pAndNot pShl pShr pNeg pCompl pConv pLt pLe pEq pSlt pSle pSeq pCat pCatOk pSlen pSsub pSat pIadd pIsub pBnot pBeq pImin pImax pLlen pLsub pLapp pLset pLcopy pLenOk pBytes pRep hF Ca hC r hr => ?_
  cbv
  refine loop_u (α := Nat × Nat × List (List Y)) (fun a st => ((st.n 6 (Int.ofNat a.2.1)).n 7 (Int.ofNat a.1)).ob 5001 (.ar 1 a.2.2)) (fun a => a.1 ≤ s.size ∧ a.2.1 = cutF s a.1 ∧ a.2.2 = (cutL s a.1).map rowS) (fun a => s.size - a.1) (0, 0, []) rfl ⟨by dsimp only; omega, rfl, rfl⟩ (fun K' hK I a hi ih => ?_)
  obtain ⟨i, f, zs⟩ := a
  obtain ⟨hi, hf, hz⟩ := hi
  dsimp only at hi hf hz
  have hfi : f ≤ i := hf ▸ cutF_le s i
  have hzl : zs.length ≤ i := by rw [hz, List.length_map]; exact cutL_len s i
  cbv
  refine brkI (fun h => ?_) (fun h => ?_) <;> try cbv
  · have hs : i < s.size := siltT hF h
    have e1 : pAdd .i64 (Int.ofNat i) 1 = Int.ofNat (i + 1) := add1Is hF (by omega)
    refine brT (zeroLe hF i) (brT (mkSilt hF hs) ?_)
    have hat : dotAt s i = decide (pSat s (Int.ofNat i) = 46) := by rw [dotAt, satIs hF]; rfl
    refine brkI (fun h => ?_) (fun h => ?_) <;> try cbv
    · have hd : dotAt s i = true := hat.trans (decide_eq_true (eqT hF h))
      repeat' (first
        | (refine brT (zeroLe hF _) ?_; try cbv)
        | (refine brT (leNat hF hfi) ?_; try cbv)
        | (refine brT (leSlen hF (Nat.le_of_lt hs)) ?_; try cbv)
        | (refine brT (appOk' hF (by simp; omega)) ?_; try cbv))
      conv => arg 1; cbv
      rw [e1]
      have e2 : pLapp zs [[yS (pSsub s (Int.ofNat f) (Int.ofNat i))]] = (cutL s (i + 1)).map rowS := by
        have := lappRow' hF hz (s.extract f i)
        have e3 : pSsub s (Int.ofNat f) (Int.ofNat i) = s.extract f i := ssubIs hF s f i
        rw [cutL, hd, if_pos rfl, ← hf, ← this, e3]
        rfl
      exact ih (i + 1, i + 1, _) _ ⟨hs, by rw [cutF, hd, if_pos rfl], e2⟩ (by dsimp only; omega) rfl
    · have hd : dotAt s i = false := hat.trans (decide_eq_false (eqF hF h))
      conv => arg 1; cbv
      rw [e1]
      exact ih (i + 1, f, zs) _ ⟨hs, by rw [cutF, hd, if_neg (by simp)]; exact hf, by rw [cutL, hd, if_neg (by simp)]; exact hz⟩ (by dsimp only; omega) rfl
  · have hs : i = s.size := Nat.le_antisymm hi (siltF hF h)
    subst hs
    refine hK _ _ ?_
    cbv
    repeat' (first
        | (refine brT (zeroLe hF _) ?_; try cbv)
        | (refine brT (leSlen hF hfi) ?_; try cbv)
        | (refine brT (appOk' hF (by simp; omega)) ?_; try cbv))
    rw [hr, hq]
    have := lappRow' hF hz (s.extract f s.size)
    have e0 : pSlen s = Int.ofNat s.size := slenIs hF s
    have e3 : pSsub s (Int.ofNat f) (Int.ofNat s.size) = s.extract f s.size := ssubIs hF s f s.size
    rw [splitL, ← hf, ← this, e0, e3]
    rfl
/-! the same, by cases -/
theorem sat_get {s : ByteArray} {j : Nat} (h : j < s.size) : prims.sat s (Int.ofNat j) = (s[j].toNat : Int) := by
  show ((s[(Int.ofNat j).toNat]?).map fun b => (b.toNat : Int)).getD 0 = _
  rw [show (Int.ofNat j).toNat = j from rfl, getElem?_pos s j h]; rfl
theorem dot_is {s : ByteArray} {j : Nat} (h : j < s.size) : dotAt s j = (s[j]! == (46 : Int).toNat.toUInt8) := by
  rw [dotAt, show prims.sat s ↑j = (s[j].toNat : Int) from sat_get h, getElem!_pos s j h, Bool.eq_iff_iff, decide_eq_true_eq, beq_iff_eq]
  constructor
  · intro e
    exact UInt8.toNat_inj.1 (by have : s[j].toNat = 46 := by omega
                                rw [this]; rfl)
  · intro e
    rw [e]; rfl
theorem fi_none {s : ByteArray} (h : firstIdx s (46 : Int).toNat.toUInt8 < 0) : firstIdx s (46 : Int).toNat.toUInt8 = -1 ∧ ∀ j, j < s.size → dotAt s j = false := by
  unfold firstIdx at h ⊢
  split at h
  · omega
  · rename_i e
    refine ⟨rfl, fun j hj => ?_⟩
    rw [List.find?_range_eq_none] at e
    rw [dot_is hj]
    simpa using e j hj
theorem fi_some {s : ByteArray} (h : ¬ firstIdx s (46 : Int).toNat.toUInt8 < 0) : ∃ k, firstIdx s (46 : Int).toNat.toUInt8 = Int.ofNat k ∧ k < s.size ∧ dotAt s k = true ∧ ∀ j, j < k → dotAt s j = false := by
  unfold firstIdx at h ⊢
  split at h
  · rename_i k e
    rw [List.find?_range_eq_some] at e
    have hk : k < s.size := by simpa using e.2.1
    refine ⟨k, rfl, hk, by rw [dot_is hk]; exact e.1, fun j hj => ?_⟩
    rw [dot_is (by omega)]
    simpa using e.2.2 j hj
  · exact absurd (by omega) h
theorem cut_none {s : ByteArray} : ∀ {i : Nat}, (∀ j, j < i → dotAt s j = false) → cutF s i = 0 ∧ cutL s i = []
  | 0, _ => ⟨rfl, rfl⟩
  | i + 1, h => by
    have ih := cut_none (i := i) fun j hj => h j (by omega)
    rw [cutF, cutL, h i (by omega)]
    exact ih
theorem cut_one {s : ByteArray} {k : Nat} (hk : dotAt s k = true) (h0 : ∀ j, j < k → dotAt s j = false) : ∀ {i : Nat}, (∀ j, k < j → j < k + 1 + i → dotAt s j = false) → cutF s (k + 1 + i) = k + 1 ∧ cutL s (k + 1 + i) = [s.extract 0 k]
  | 0, _ => by
    have ih := cut_none h0
    rw [Nat.add_zero, cutF, cutL, hk, if_pos rfl, if_pos rfl, ih.1, ih.2]
    exact ⟨rfl, rfl⟩
  | i + 1, h => by
    have ih := cut_one hk h0 (i := i) fun j h1 h2 => h j h1 (by omega)
    rw [← Nat.add_assoc, cutF, cutL, h (k + 1 + i) (by omega) (by omega)]
    exact ih
theorem cut_more {s : ByteArray} {m : Nat} : ∀ {i : Nat}, (cutL s m).length ≤ (cutL s (m + i)).length
  | 0 => Nat.le_refl _
  | i + 1 => by
    refine Nat.le_trans (cut_more (i := i)) ?_
    rw [← Nat.add_assoc, cutL]
    split
    · rw [List.length_append]; exact Nat.le_add_right _ _
    · exact Nat.le_refl _
theorem cut_two {s : ByteArray} {k j : Nat} (hk : dotAt s k = true) (hkj : k < j) (hj : dotAt s j = true) (hn : j < s.size) : 2 ≤ (cutL s s.size).length := by
  have h1 : 1 ≤ (cutL s (k + 1)).length := by rw [cutL, hk, if_pos rfl, List.length_append]; exact Nat.le_add_left _ _
  have h2 : (cutL s (k + 1)).length ≤ (cutL s j).length := by
    have := cut_more (s := s) (m := k + 1) (i := j - (k + 1))
    rwa [show k + 1 + (j - (k + 1)) = j by omega] at this
  have h3 : 2 ≤ (cutL s (j + 1)).length := by rw [cutL, hj, if_pos rfl, List.length_append]; exact Nat.succ_le_succ (Nat.le_trans h1 h2)
  have := cut_more (s := s) (m := j + 1) (i := s.size - (j + 1))
  rw [show j + 1 + (s.size - (j + 1)) = s.size by omega] at this
  omega
def colName (s : ByteArray) : Bool := decide ((splitL s).length = 2) && (nameRight ((splitL s).getD 0 .empty) && nameRight ((splitL s).getD 1 .empty))
theorem col_none {s : ByteArray} (h : ∀ j, j < s.size → dotAt s j = false) : colName s = false := by
  rw [colName, splitL, (cut_none h).2]; rfl
theorem name_dot {s : ByteArray} {j : Nat} (hj : j < s.size) (h : dotAt s j = true) : nameRight s = false := by
  refine nameRight_bad hj ?_
  have := of_decide_eq_true h
  rw [nameAt, this]; simp
theorem sat_extract {s : ByteArray} {k i : Nat} (h : k + i < s.size) : dotAt (s.extract k s.size) i = dotAt s (k + i) := by
  have h2 : i < (s.extract k s.size).size := by rw [ByteArray.size_extract]; omega
  rw [dotAt, dotAt, show prims.sat (s.extract k s.size) ↑i = _ from sat_get h2, show prims.sat s ↑(k + i) = _ from sat_get h, ByteArray.getElem_extract]
theorem col_some {s : ByteArray} {k : Nat} (hk : k < s.size) (hd : dotAt s k = true) (h0 : ∀ j, j < k → dotAt s j = false) : colName s = (nameRight (s.extract 0 k) && nameRight (s.extract (k + 1) s.size)) := by
  by_cases hj : ∃ j, k < j ∧ j < s.size ∧ dotAt s j = true
  · obtain ⟨j, h1, h2, h3⟩ := hj
    have := cut_two hd h1 h3 h2
    rw [colName, decide_eq_false (by rw [splitL, List.length_append]; simp; omega), Bool.false_and]
    have e := sat_extract (s := s) (k := k + 1) (i := j - (k + 1)) (by omega)
    rw [show k + 1 + (j - (k + 1)) = j by omega, h3] at e
    rw [name_dot (by rw [ByteArray.size_extract]; omega) e, Bool.and_false]
  · have hn : ∀ j, k < j → j < k + 1 + (s.size - (k + 1)) → dotAt s j = false := fun j h1 h2 => by
      cases h : dotAt s j with
      | false => rfl
      | true => exact absurd ⟨j, h1, by omega, h⟩ hj
    have := cut_one hd h0 hn
    rw [show k + 1 + (s.size - (k + 1)) = s.size by omega] at this
    rw [colName, splitL, this.1, this.2]
    rfl
theorem name_empty : nameRight .empty = false := nameRight_long (.inl (by decide))
/-! functions -/
def dot : ByteArray := ⟨#[46]⟩
theorem ixb_ok (s : ByteArray) : CallOK Try.prog 201 [aS s, .c (.y (.sc (.int .u8 46)))] (N (firstIdx s (46 : Int).toNat.toUInt8)) := indexByte_ok rfl rfl rfl rfl rfl s 46
theorem ixb1_ok (s : ByteArray) : CallOK Try.prog 197 [aS s, .c (.y (.sc (.int .u8 46)))] (N (firstIdx s (46 : Int).toNat.toUInt8)) := by
  have h := ixb_ok s
  obtain ⟨q, hq⟩ : ∃ q, q = firstIdx s (46 : Int).toNat.toUInt8 := ⟨_, rfl⟩
  rw [← hq] at h ⊢
  obtain ⟨M, hM⟩ := mapEx
  try simp only [hM]
  refine go Try.func197 rfl rfl rfl rfl fun pAdd pSub pMul pQuo pRem pAnd pOr pXor pAndNot pShl pShr pNeg pCompl pConv pLt pLe pEq pSlt pSle pSeq pCat pCatOk pSlen pSsub pSat pIadd pIsub pBnot pBeq pImin pImax pLlen pLsub pLapp pLset pLcopy pLenOk pBytes pRep hF Ca hC r hr => ?_
  cbv
  refine callI hC h ?_
  cbv
  exact hr.symm
theorem six_ok (s : ByteArray) : CallOK Try.prog 194 [aS s, aS dot] (N (firstIdx s (46 : Int).toNat.toUInt8)) := by
  have h := ixb1_ok s
  have h1 : s = dot → firstIdx s (46 : Int).toNat.toUInt8 = 0 := fun e => by subst e; decide
  obtain ⟨q, hq⟩ : ∃ q, q = firstIdx s (46 : Int).toNat.toUInt8 := ⟨_, rfl⟩
  rw [← hq] at h h1 ⊢
  obtain ⟨d, hd⟩ : ∃ d, d = dot := ⟨_, rfl⟩
  rw [← hd] at h1 ⊢
  have d1 : prims.slen d = 1 := by rw [hd]; rfl
  have d2 : prims.sat d 0 = 46 := by rw [hd]; rfl
  obtain ⟨M, hM⟩ := mapEx
  try simp only [hM]
  refine go Try.func194 rfl rfl rfl rfl fun pAdd pSub pMul pQuo pRem pAnd pOr pXor pAndNot pShl pShr pNeg pCompl pConv pLt pLe pEq pSlt pSle pSeq pCat pCatOk pSlen pSsub pSat pIadd pIsub pBnot pBeq pImin pImax pLlen pLsub pLapp pLset pLcopy pLenOk pBytes pRep hF Ca hC r hr => ?_
  cbv
  rw [hF] at d1 d2
  have d1 : pSlen d = 1 := d1
  have d2 : pSat d 0 = 46 := d2
  refine brkI (fun h => ?_) (fun _ => ?_) <;> try cbv
  · exact absurd (eqT hF h) (by rw [show _ = (1 : Int) from d1]; decide)
  refine brkI (fun h => ?_) (fun _ => ?_) <;> try cbv
  · exact retN hr (h1 (seqT hF h).symm)
  refine brkI (fun _ => ?_) (fun h => ?_) <;> try cbv
  rotate_left
  · exact absurd d1 (eqF hF h)
  refine brT (leSelf hF 0) (brT (mkLt hF (by rw [show _ = (1 : Int) from d1]; decide)) ?_)
  try cbv
  rw [d2]
  refine callI hC h ?_
  cbv
  exact hr.symm
def cutA (s : ByteArray) : ByteArray := if firstIdx s (46 : Int).toNat.toUInt8 < 0 then s else s.extract 0 (firstIdx s (46 : Int).toNat.toUInt8).toNat
def cutB (s : ByteArray) : ByteArray := if firstIdx s (46 : Int).toNat.toUInt8 < 0 then .empty else s.extract ((firstIdx s (46 : Int).toNat.toUInt8).toNat + 1) s.size
def cutC (s : ByteArray) : Bool := decide (0 ≤ firstIdx s (46 : Int).toNat.toUInt8)
abbrev Cut3 (a b : ByteArray) (c : Bool) : Res := ⟨.tup [(false, [.y (yS a)]), (false, [.y (yS b)]), (false, [.y (yB c)])], []⟩
theorem cut1_ok (s : ByteArray) (hl : s.size ≤ maxLen) : CallOK Try.prog 190 [aS s, aS dot] (Cut3 (cutA s) (cutB s) (cutC s)) := by
  rw [maxLen_is] at hl
  have h := six_ok s
  have h1 := fi_some (s := s)
  obtain ⟨a, ha⟩ : ∃ q, q = cutA s := ⟨_, rfl⟩
  obtain ⟨b, hb⟩ : ∃ q, q = cutB s := ⟨_, rfl⟩
  obtain ⟨c, hc⟩ : ∃ q, q = cutC s := ⟨_, rfl⟩
  rw [← ha, ← hb, ← hc]
  rw [cutA] at ha
  rw [cutB] at hb
  rw [cutC] at hc
  obtain ⟨q, hq⟩ : ∃ q, q = firstIdx s (46 : Int).toNat.toUInt8 := ⟨_, rfl⟩
  rw [← hq] at h h1 ha hb hc
  clear hq
  obtain ⟨d, hd⟩ : ∃ d, d = dot := ⟨_, rfl⟩
  rw [← hd] at h ⊢
  have d1 : prims.slen d = 1 := by rw [hd]; rfl
  obtain ⟨M, hM⟩ := mapEx
  try simp only [hM]
  refine go Try.func190 rfl rfl rfl rfl fun pAdd pSub pMul pQuo pRem pAnd pOr pXor pAndNot pShl pShr pNeg pCompl pConv pLt pLe pEq pSlt pSle pSeq pCat pCatOk pSlen pSsub pSat pIadd pIsub pBnot pBeq pImin pImax pLlen pLsub pLapp pLset pLcopy pLenOk pBytes pRep hF Ca hC r hr => ?_
  cbv
  rw [hF] at d1
  have d1 : pSlen d = 1 := d1
  refine callN hC h (fun m hm => ?_)
  cbv
  subst hm
  refine brkI (fun h2 => ?_) (fun h2 => ?_) <;> try cbv
  · have h2 := leT hF h2
    obtain ⟨k, e, hk, _⟩ := h1 (by omega)
    have n1 : ¬ m < 0 := by omega
    rw [if_neg n1, e] at ha hb
    rw [decide_eq_true h2] at hc
    have e1 : pAdd .i64 (Int.ofNat k) 1 = Int.ofNat (k + 1) := add1Is hF (by omega)
    rw [d1, e, e1]
    repeat' (first
      | (refine brT (zeroLe hF _) ?_; try cbv)
      | (refine brT (leSelf hF _) ?_; try cbv)
      | (refine brT (leSlen hF (Nat.le_of_lt hk)) ?_; try cbv)
      | (refine brT (leSlen hF (i := k + 1) hk) ?_; try cbv))
    have x1 : pSsub s 0 (Int.ofNat k) = s.extract 0 k := ssubIs hF s 0 k
    have x2 : pSsub s (Int.ofNat (k + 1)) (pSlen s) = s.extract (k + 1) s.size := by rw [show pSlen s = Int.ofNat s.size from slenIs hF s]; exact ssubIs hF s (k + 1) s.size
    rw [hr, ha, hb, hc, x1, x2]; rfl
  · have h2 := leF hF h2
    rw [if_pos h2] at ha hb
    rw [decide_eq_false (by omega)] at hc
    rw [hr, ha, hb, hc]; rfl
theorem cut_ok (s : ByteArray) (hl : s.size ≤ maxLen) : CallOK Try.prog 176 [aS s, aS dot] (Cut3 (cutA s) (cutB s) (cutC s)) := by
  have h := cut1_ok s hl
  obtain ⟨a, ha⟩ : ∃ q, q = cutA s := ⟨_, rfl⟩
  obtain ⟨b, hb⟩ : ∃ q, q = cutB s := ⟨_, rfl⟩
  obtain ⟨c, hc⟩ : ∃ q, q = cutC s := ⟨_, rfl⟩
  rw [← ha, ← hb, ← hc] at h ⊢
  obtain ⟨d, hd⟩ : ∃ d, d = dot := ⟨_, rfl⟩
  rw [← hd] at h ⊢
  clear ha hb hc hd
  obtain ⟨M, hM⟩ := mapEx
  try simp only [hM]
  refine go Try.func176 rfl rfl rfl rfl fun pAdd pSub pMul pQuo pRem pAnd pOr pXor pAndNot pShl pShr pNeg pCompl pConv pLt pLe pEq pSlt pSle pSeq pCat pCatOk pSlen pSsub pSat pIadd pIsub pBnot pBeq pImin pImax pLlen pLsub pLapp pLset pLcopy pLenOk pBytes pRep hF Ca hC r hr => ?_
  cbv
  refine callI hC h ?_
  cbv
  exact hr.symm
theorem cut_col (s : ByteArray) : (nameRight (cutA s) && nameRight (cutB s)) = colName s := by
  by_cases h : firstIdx s (46 : Int).toNat.toUInt8 < 0
  · rw [cutB, if_pos h, name_empty, Bool.and_false, col_none (fi_none h).2]
  · obtain ⟨k, e, hk, hd, h0⟩ := fi_some h
    rw [cutA, cutB, if_neg h, if_neg h, e, col_some hk hd h0]; rfl
theorem cut_size (s : ByteArray) : (cutA s).size ≤ s.size ∧ (cutB s).size ≤ s.size := by
  constructor
  · rw [cutA]; split
    · exact Nat.le_refl _
    · rw [ByteArray.size_extract]; omega
  · rw [cutB]; split
    · exact Nat.zero_le _
    · rw [ByteArray.size_extract]; omega
theorem iCol_ok (s : ByteArray) (hl : s.size ≤ maxLen) : CallOK Try.prog 139 [aS s] (B (colName s)) := by
  have h := cut_ok s hl
  have na := iNameRight_ok (cutA s) (Nat.le_trans (cut_size s).1 hl)
  have nb := iNameRight_ok (cutB s) (Nat.le_trans (cut_size s).2 hl)
  rw [← cut_col]
  obtain ⟨a, ha⟩ : ∃ q, q = cutA s := ⟨_, rfl⟩
  obtain ⟨b, hb⟩ : ∃ q, q = cutB s := ⟨_, rfl⟩
  obtain ⟨c, hc⟩ : ∃ q, q = cutC s := ⟨_, rfl⟩
  rw [← ha, ← hb, ← hc] at h
  rw [← ha] at na ⊢
  rw [← hb] at nb ⊢
  obtain ⟨p, hp⟩ : ∃ q, q = nameRight a := ⟨_, rfl⟩
  obtain ⟨q, hq⟩ : ∃ r, r = nameRight b := ⟨_, rfl⟩
  rw [← hp] at na ⊢
  rw [← hq] at nb ⊢
  obtain ⟨x, hx⟩ : ∃ r, r = (p && q) := ⟨_, rfl⟩
  rw [← hx]
  clear ha hb hc hp hq
  obtain ⟨M, hM⟩ := mapEx
  try simp only [hM]
  refine go Try.func139 rfl rfl rfl rfl fun pAdd pSub pMul pQuo pRem pAnd pOr pXor pAndNot pShl pShr pNeg pCompl pConv pLt pLe pEq pSlt pSle pSeq pCat pCatOk pSlen pSsub pSat pIadd pIsub pBnot pBeq pImin pImax pLlen pLsub pLapp pLset pLcopy pLenOk pBytes pRep hF Ca hC r hr => ?_
  cbv
  refine callI hC h ?_
  cbv
  refine callB hC na (fun h1 => ?_) (fun h1 => ?_) <;> try cbv
  all_goals try (refine callB hC nb (fun h2 => ?_) (fun h2 => ?_) <;> try cbv)
  all_goals exact retB hr (by rw [hx, h1]; first | (rw [h2]; rfl) | rfl)
theorem cutL_size (s : ByteArray) : ∀ i, ∀ u ∈ cutL s i, u.size ≤ s.size
  | 0, _, h => absurd h (by rw [cutL]; exact List.not_mem_nil)
  | i + 1, u, h => by
    rw [cutL] at h
    split at h
    · rw [List.mem_append, List.mem_singleton] at h
      rcases h with h | rfl
      · exact cutL_size s i u h
      · rw [ByteArray.size_extract]; omega
    · exact cutL_size s i u h
theorem splitL_size (s : ByteArray) : ∀ u ∈ splitL s, u.size ≤ s.size := fun u h => by
  rw [splitL, List.mem_append, List.mem_singleton] at h
  rcases h with h | rfl
  · exact cutL_size s _ u h
  · rw [ByteArray.size_extract]; omega
theorem sCol_ok (s : ByteArray) (hl : s.size ≤ 1048576) : CallOK Try.prog 131 [aS s] (B (colName s)) := by
  have h := split_ok s hl
  obtain ⟨l, hL⟩ : ∃ l, l = splitL s := ⟨_, rfl⟩
  have na := fun h2 => sNameRight_ok (l.getD 0 .empty) h2
  have nb := fun h2 => sNameRight_ok (l.getD 1 .empty) h2
  have hs : ∀ u ∈ l, u.size ≤ maxLen := fun u hu => Nat.le_trans (splitL_size s u (hL ▸ hu)) (Nat.le_trans hl (by decide))
  obtain ⟨x, hx⟩ : ∃ r, r = colName s := ⟨_, rfl⟩
  rw [← hL] at h
  rw [← hx]
  rw [colName, ← hL] at hx
  clear hL
  obtain ⟨xs, hxs⟩ : ∃ xs, xs = l.map rowS := ⟨_, rfl⟩
  have hxl : xs.length = l.length := by rw [hxs, List.length_map]
  rw [← hxs] at h
  obtain ⟨p, hp⟩ : ∃ q, q = nameRight (l.getD 0 .empty) := ⟨_, rfl⟩
  obtain ⟨q, hq⟩ : ∃ q, q = nameRight (l.getD 1 .empty) := ⟨_, rfl⟩
  rw [← hp] at na hx
  rw [← hq] at nb hx
  obtain ⟨a, ha⟩ : ∃ q, q = l.getD 0 .empty := ⟨_, rfl⟩
  obtain ⟨b, hb⟩ : ∃ q, q = l.getD 1 .empty := ⟨_, rfl⟩
  rw [← ha] at na
  rw [← hb] at nb
  clear hp hq
  obtain ⟨M, hM⟩ := mapEx
  try simp only [hM]
  refine go Try.func131 rfl rfl rfl rfl fun pAdd pSub pMul pQuo pRem pAnd pOr pXor pAndNot pShl pShr pNeg pCompl pConv pLt pLe pEq pSlt pSle pSeq pCat pCatOk pSlen pSsub pSat pIadd pIsub pBnot pBeq pImin pImax pLlen pLsub pLapp pLset pLcopy pLenOk pBytes pRep hF Ca hC r hr => ?_
  cbv
  have ex : pLlen xs = Int.ofNat l.length := by rw [← hxl]; exact llenIs hF xs
  refine callI hC h ?_
  cbv
  refine brkI (fun h1 => ?_) (fun h1 => ?_) <;> try cbv
  · have h2 := eqT hF h1
    rw [ex] at h2
    have h2 : l.length = 2 := Int.ofNat.inj h2
    have h0 : 0 < l.length := by omega
    have h1' : 1 < l.length := by omega
    have na := na (by rw [ha, getD_at h0]; exact hs _ (List.getElem_mem _))
    have nb := nb (by rw [hb, getD_at h1']; exact hs _ (List.getElem_mem _))
    have el : pLlen xs = 2 := by rw [ex, h2]; rfl
    refine brT (leSelf hF 0) (brT (mkLt hF (by rw [show _ = (2 : Int) from el]; decide)) ?_)
    refine lgetM (i := 0) (fun s => [yS s]) (fun _ => rfl) hxs h0 fun u hu => ?_
    rw [show u = a from hu.trans ((getD_at h0).symm.trans ha.symm)]
    cbv
    refine callB hC na (fun h3 => ?_) (fun h3 => ?_) <;> try cbv
    · refine brT (mkLe hF (by decide)) (brT (mkLt hF (by rw [show _ = (2 : Int) from el]; decide)) ?_)
      refine lgetM (i := 1) (fun s => [yS s]) (fun _ => rfl) hxs h1' fun u hu => ?_
      rw [show u = b from hu.trans ((getD_at h1').symm.trans hb.symm)]
      cbv
      refine callB hC nb (fun h4 => ?_) (fun h4 => ?_) <;> try cbv
      all_goals exact retB hr (by rw [hx, decide_eq_true h2, h3, h4]; rfl)
    · exact retB hr (by rw [hx, decide_eq_true h2, h3]; rfl)
  · have h2 := eqF hF h1
    rw [ex] at h2
    exact retB hr (by rw [hx, decide_eq_false (fun e => h2 (by rw [e]; rfl))]; rfl)
end Go.Proofs.Ytcmgkfoppofniaa
