/- Functions of the program, each with what it returns, run by the evaluator; the conditions stand in the theorems. -/
import Derived.Test.YtnieabocheadpaaGreatLTy
namespace Go.Proofs.YtnieabocheadpaaGreat
open Go Go.Proofs.YtnieabocheadpaaGreatW Go.Proofs
set_option linter.unusedVariables false
set_option linter.unusedSimpArgs false
set_option maxRecDepth 100000
set_option maxHeartbeats 8000000
def noB : ByteArray := ⟨⟨[]⟩⟩
def secAt (l : List ByteArray) (i : Nat) : Bool := decide ((l.getD i noB).size = 64)
def wrAt (d : Dsk) (i : Nat) : Bool := decide (0 ≤ (d.cache.getD i default).at_) && decide ((d.cache.getD i default).at_ < Int.ofNat d.secs.length) && decide ((d.cache.getD i default).text.size = 64)
def diskRight (d : Dsk) : Bool := decide (d.secs.length ≤ 700) && decide (d.cache.length ≤ 400) && allTo (secAt d.secs) d.secs.length && allTo (wrAt d) d.cache.length
theorem diskRight_len {d : Dsk} (h : 700 < d.secs.length ∨ 400 < d.cache.length) : diskRight d = false := by
  have : (decide (d.secs.length ≤ 700) && decide (d.cache.length ≤ 400)) = false := by (first | (simp only [Bool.or_eq_true, Bool.and_eq_true, Bool.not_eq_true', Bool.or_eq_false_iff, Bool.and_eq_false_iff, Bool.not_eq_false', decide_eq_true_eq, decide_eq_false_iff_not, Bool.not_false, Bool.not_true, Bool.and_true, Bool.true_and, Bool.or_false, Bool.false_or, and_true, true_and, Int.ofNat_eq_natCast] at *; omega) | (simp only [Bool.eq_false_iff, ne_eq, Bool.or_eq_true, Bool.and_eq_true, Bool.not_eq_true', decide_eq_true_eq, decide_eq_false_iff_not, Bool.not_false, Bool.not_true, Bool.and_true, Bool.true_and, Bool.or_false, Bool.false_or, and_true, true_and, Int.ofNat_eq_natCast] at *; omega) | (simp only [Bool.or_eq_true, Bool.and_eq_true, Bool.not_eq_true', Bool.or_eq_false_iff, Bool.and_eq_false_iff, Bool.not_eq_false', decide_eq_true_eq, decide_eq_false_iff_not, Bool.not_false, Bool.not_true, Bool.and_true, Bool.true_and, Bool.or_false, Bool.false_or, and_true, true_and, Int.ofNat_eq_natCast] at *; grind) | grind)
  rw [diskRight, this]; rfl
theorem diskRight_sec {d : Dsk} {i : Nat} (h : i < d.secs.length) (hp : secAt d.secs i = false) : diskRight d = false := by rw [diskRight, allTo_false h hp, Bool.and_false]; rfl
theorem diskRight_wr {d : Dsk} {i : Nat} (h : i < d.cache.length) (hp : wrAt d i = false) : diskRight d = false := by rw [diskRight, allTo_false h hp, Bool.and_false]
theorem sDiskRight_ok (d : Dsk) (hm : Dsk.Bd maxLen d) : CallOK Tryz.prog 50 [.agg [.y (.sl 1 (d.secs.map rowS)), .y (.sl 2 (d.cache.map Wr.row))]] (B (diskRight d)) := by
  have b1 := hm.1.1
  have b2 := hm.2.1.1
  rw [maxLen_is] at b1 b2
  clear hm
  obtain ⟨q, hq⟩ : ∃ q, q = diskRight d := ⟨_, rfl⟩
  obtain ⟨xs, hx⟩ : ∃ xs, xs = d.secs.map rowS := ⟨_, rfl⟩
  have hxl : xs.length = d.secs.length := by rw [hx, List.length_map]
  obtain ⟨ws, hws⟩ : ∃ ws, ws = d.cache.map Wr.row := ⟨_, rfl⟩
  have hwl : ws.length = d.cache.length := by rw [hws, List.length_map]
  rw [← hq, ← hx, ← hws]
  obtain ⟨M, hM⟩ := mapEx
  try simp only [hM]
  refine go Tryz.func50 rfl rfl rfl rfl fun pAdd pSub pMul pQuo pRem pAnd pOr pXor pAndNot pShl pShr pNeg pCompl pConv pLt pLe pEq pSlt pSle pSeq pCat pCatOk pSlen pSsub pSat pIadd pIsub pBnot pBeq pImin pImax pLlen pLsub pLapp pLset pLcopy pLenOk pBytes pRep hF Ca hC r hr => ?_
  cbv
  have e1 : pLlen xs = Int.ofNat d.secs.length := by rw [← hxl]; exact llenIs hF xs
  have e2 : pLlen ws = Int.ofNat d.cache.length := by rw [← hwl]; exact llenIs hF ws
  refine brkI (fun h => ?_) (fun h => ?_) <;> try cbv
  · have h := ltT hF h
    rw [e1] at h
    exact retB hr (hq.trans (diskRight_len (.inl (by ((try simp only [Int.ofNat_eq_natCast] at *); omega)))))
  have h1 := ltF hF h
  rw [e1] at h1
  have h1 : d.secs.length ≤ 700 := by ((try simp only [Int.ofNat_eq_natCast] at *); omega)
  refine brkI (fun h => ?_) (fun h => ?_) <;> try cbv
  · have h := ltT hF h
    rw [e2] at h
    exact retB hr (hq.trans (diskRight_len (.inr (by ((try simp only [Int.ofNat_eq_natCast] at *); omega)))))
  have h2 := ltF hF h
  rw [e2] at h2
  have h2 : d.cache.length ≤ 400 := by ((try simp only [Int.ofNat_eq_natCast] at *); omega)
  refine loop_all (fun a st => st.n 3 (Int.ofNat a)) (secAt d.secs) d.secs.length rfl (fun K' hK I i hi hp ih => ?_)
  cbv
  refine brkI (fun h => ?_) (fun h => ?_) <;> try cbv
  · have hs : i < d.secs.length := hxl ▸ iltT hF h
    have e1 : pAdd .i64 (Int.ofNat i) 1 = Int.ofNat (i + 1) := add1Is hF (by omega)
    refine lgetM (fun u => [yS u]) (fun u => by simp only [rowS]) hx hs fun u hu => ?_
    cbv
    have hu' : secAt d.secs i = decide (u.size = 64) := by rw [secAt, getD_of hs hu]
    have eu : pSlen u = Int.ofNat u.size := slenIs hF u
    refine brkI (fun h3 => ?_) (fun h3 => ?_) <;> try cbv
    · have h3 := eqT hF h3
      rw [eu] at h3
      conv => arg 1; cbv
      rw [e1]
      exact ih _ hs (hu'.trans (decide_eq_true (by ((try simp only [Int.ofNat_eq_natCast] at *); omega)))) rfl
    · have h3 := eqF hF h3
      rw [eu] at h3
      refine hK _ _ ?_
      cbv
      exact retB hr (hq.trans (diskRight_sec hs (hu'.trans (decide_eq_false (by ((try simp only [Int.ofNat_eq_natCast] at *); omega))))))
  · have hs : i = d.secs.length := Nat.le_antisymm hi (hxl ▸ iltF hF h)
    have hsec : allTo (secAt d.secs) d.secs.length = true := hs ▸ allTo_iff.2 hp
    clear ih hp hi
    refine hK _ _ ?_
    cbv
    clear hK
    refine loop_all (fun a st => st.n 4 (Int.ofNat a)) (wrAt d) d.cache.length rfl (fun K' hK I i hi hp ih => ?_)
    cbv
    refine brkI (fun h => ?_) (fun h => ?_) <;> try cbv
    · have hs : i < d.cache.length := hwl ▸ iltT hF h
      have e3 : pAdd .i64 (Int.ofNat i) 1 = Int.ofNat (i + 1) := add1Is hF (by omega)
      refine lgetM (fun u => [yN u.at_, yS u.text]) (fun u => by simp only [Wr.row, hM]) hws hs fun u hu => ?_
      cbv
      have hu' : wrAt d i = (decide (0 ≤ u.at_) && decide (u.at_ < Int.ofNat d.secs.length) && decide (u.text.size = 64)) := by rw [wrAt, getD_of hs hu]
      have eu : pSlen u.text = Int.ofNat u.text.size := slenIs hF u.text
      repeat' (refine brkI (fun h3 => ?_) (fun h3 => ?_) <;> try cbv)
      all_goals first
        | (conv => arg 1; cbv
           rw [e3]
           refine ih _ hs (hu'.trans ?_) rfl)
        | (refine hK _ _ ?_
           cbv
           refine retB hr (hq.trans (diskRight_wr hs (hu'.trans ?_))))
      all_goals
        clear hK ih hC hr hp hu hu' e3
        have lD : ∀ a b, pLt a b = decide (a < b) := ltD hF
        have eD : ∀ a b, pLe a b = decide (a ≤ b) := leD hF
        have qD : ∀ a b, pEq a b = decide (a = b) := eqD hF
        have sD : ∀ a b, pSeq a b = decide (a = b) := seqD hF
        simp only [lD, eD, qD, e1, eu] at *
        clear lD eD qD sD hF
        (first | (simp only [Bool.or_eq_true, Bool.and_eq_true, Bool.not_eq_true', Bool.or_eq_false_iff, Bool.and_eq_false_iff, Bool.not_eq_false', decide_eq_true_eq, decide_eq_false_iff_not, Bool.not_false, Bool.not_true, Bool.and_true, Bool.true_and, Bool.or_false, Bool.false_or, and_true, true_and, Int.ofNat_eq_natCast] at *; omega) | (simp only [Bool.eq_false_iff, ne_eq, Bool.or_eq_true, Bool.and_eq_true, Bool.not_eq_true', decide_eq_true_eq, decide_eq_false_iff_not, Bool.not_false, Bool.not_true, Bool.and_true, Bool.true_and, Bool.or_false, Bool.false_or, and_true, true_and, Int.ofNat_eq_natCast] at *; omega) | (simp only [Bool.or_eq_true, Bool.and_eq_true, Bool.not_eq_true', Bool.or_eq_false_iff, Bool.and_eq_false_iff, Bool.not_eq_false', decide_eq_true_eq, decide_eq_false_iff_not, Bool.not_false, Bool.not_true, Bool.and_true, Bool.true_and, Bool.or_false, Bool.false_or, and_true, true_and, Int.ofNat_eq_natCast] at *; grind) | grind)
    · have hs : i = d.cache.length := Nat.le_antisymm hi (hwl ▸ iltF hF h)
      have hwr : allTo (wrAt d) d.cache.length = true := hs ▸ allTo_iff.2 hp
      refine hK _ _ ?_
      cbv
      refine retB hr (hq.trans ?_)
      rw [diskRight, decide_eq_true h1, decide_eq_true h2, hsec, hwr]; rfl
theorem iDiskRight_ok (d : Dsk) (hm : Dsk.Bd maxLen d) : CallOK Tryz.prog 55 [.agg [.y (.sl 1 (d.secs.map rowS)), .y (.sl 2 (d.cache.map Wr.row))]] (B (diskRight d)) := by
  have b1 := hm.1.1
  have b2 := hm.2.1.1
  rw [maxLen_is] at b1 b2
  clear hm
  obtain ⟨q, hq⟩ : ∃ q, q = diskRight d := ⟨_, rfl⟩
  obtain ⟨xs, hx⟩ : ∃ xs, xs = d.secs.map rowS := ⟨_, rfl⟩
  have hxl : xs.length = d.secs.length := by rw [hx, List.length_map]
  obtain ⟨ws, hws⟩ : ∃ ws, ws = d.cache.map Wr.row := ⟨_, rfl⟩
  have hwl : ws.length = d.cache.length := by rw [hws, List.length_map]
  rw [← hq, ← hx, ← hws]
  obtain ⟨M, hM⟩ := mapEx
  try simp only [hM]
  refine go Tryz.func55 rfl rfl rfl rfl fun pAdd pSub pMul pQuo pRem pAnd pOr pXor pAndNot pShl pShr pNeg pCompl pConv pLt pLe pEq pSlt pSle pSeq pCat pCatOk pSlen pSsub pSat pIadd pIsub pBnot pBeq pImin pImax pLlen pLsub pLapp pLset pLcopy pLenOk pBytes pRep hF Ca hC r hr => ?_
  cbv
  have e1 : pLlen xs = Int.ofNat d.secs.length := by rw [← hxl]; exact llenIs hF xs
  have e2 : pLlen ws = Int.ofNat d.cache.length := by rw [← hwl]; exact llenIs hF ws
  refine brkI (fun h => ?_) (fun h => ?_) <;> try cbv
  · have h := ltT hF h
    rw [e1] at h
    exact retB hr (hq.trans (diskRight_len (.inl (by ((try simp only [Int.ofNat_eq_natCast] at *); omega)))))
  have h1 := ltF hF h
  rw [e1] at h1
  have h1 : d.secs.length ≤ 700 := by ((try simp only [Int.ofNat_eq_natCast] at *); omega)
  refine brkI (fun h => ?_) (fun h => ?_) <;> try cbv
  · have h := ltT hF h
    rw [e2] at h
    exact retB hr (hq.trans (diskRight_len (.inr (by ((try simp only [Int.ofNat_eq_natCast] at *); omega)))))
  have h2 := ltF hF h
  rw [e2] at h2
  have h2 : d.cache.length ≤ 400 := by ((try simp only [Int.ofNat_eq_natCast] at *); omega)
  refine loop_all (fun a st => st.n 20 (Int.ofNat a)) (secAt d.secs) d.secs.length rfl (fun K' hK I i hi hp ih => ?_)
  cbv
  refine brkI (fun h => ?_) (fun h => ?_) <;> try cbv
  · have hs : i < d.secs.length := hxl ▸ iltT hF h
    have e1 : pAdd .i64 (Int.ofNat i) 1 = Int.ofNat (i + 1) := add1Is hF (by omega)
    refine lgetM (fun u => [yS u]) (fun u => by simp only [rowS]) hx hs fun u hu => ?_
    cbv
    have hu' : secAt d.secs i = decide (u.size = 64) := by rw [secAt, getD_of hs hu]
    have eu : pSlen u = Int.ofNat u.size := slenIs hF u
    refine brkI (fun h3 => ?_) (fun h3 => ?_) <;> try cbv
    · have h3 := eqT hF h3
      rw [eu] at h3
      conv => arg 1; cbv
      rw [e1]
      exact ih _ hs (hu'.trans (decide_eq_true (by ((try simp only [Int.ofNat_eq_natCast] at *); omega)))) rfl
    · have h3 := eqF hF h3
      rw [eu] at h3
      refine hK _ _ ?_
      cbv
      exact retB hr (hq.trans (diskRight_sec hs (hu'.trans (decide_eq_false (by ((try simp only [Int.ofNat_eq_natCast] at *); omega))))))
  · have hs : i = d.secs.length := Nat.le_antisymm hi (hxl ▸ iltF hF h)
    have hsec : allTo (secAt d.secs) d.secs.length = true := hs ▸ allTo_iff.2 hp
    clear ih hp hi
    refine hK _ _ ?_
    cbv
    clear hK
    refine loop_all (fun a st => st.n 31 (Int.ofNat a)) (wrAt d) d.cache.length rfl (fun K' hK I i hi hp ih => ?_)
    cbv
    refine brkI (fun h => ?_) (fun h => ?_) <;> try cbv
    · have hs : i < d.cache.length := hwl ▸ iltT hF h
      have e3 : pAdd .i64 (Int.ofNat i) 1 = Int.ofNat (i + 1) := add1Is hF (by omega)
      refine lgetM (fun u => [yN u.at_, yS u.text]) (fun u => by simp only [Wr.row, hM]) hws hs fun u hu => ?_
      cbv
      have hu' : wrAt d i = (decide (0 ≤ u.at_) && decide (u.at_ < Int.ofNat d.secs.length) && decide (u.text.size = 64)) := by rw [wrAt, getD_of hs hu]
      have eu : pSlen u.text = Int.ofNat u.text.size := slenIs hF u.text
      obtain ⟨m, hm⟩ : ∃ m, m = pSub .i64 (pLlen xs) 1 := ⟨_, rfl⟩
      rw [← hm]
      refine callB hC (within_ok u.at_ 0 m) (fun h3 => ?_) (fun h3 => ?_) <;> try cbv
      all_goals
        have e3' : m = Int.ofNat d.secs.length - 1 := by rw [hm, e1]; exact subIs hF (by ((try simp only [Int.ofNat_eq_natCast] at *); omega)) (by ((try simp only [Int.ofNat_eq_natCast] at *); omega))
      · refine brkI (fun h4 => ?_) (fun h4 => ?_) <;> try cbv
        all_goals first
          | (conv => arg 1; cbv
             rw [e3]
             refine ih _ hs (hu'.trans ?_) rfl)
          | (refine hK _ _ ?_
             cbv
             refine retB hr (hq.trans (diskRight_wr hs (hu'.trans ?_))))
        all_goals
          clear hK ih hC hr hp hu hu' e3
          have lD : ∀ a b, pLt a b = decide (a < b) := ltD hF
          have eD : ∀ a b, pLe a b = decide (a ≤ b) := leD hF
          have qD : ∀ a b, pEq a b = decide (a = b) := eqD hF
          have sD : ∀ a b, pSeq a b = decide (a = b) := seqD hF
          simp only [lD, eD, qD, e1, eu, e3'] at *
          clear lD eD qD sD hF
          (first | (simp only [Bool.or_eq_true, Bool.and_eq_true, Bool.not_eq_true', Bool.or_eq_false_iff, Bool.and_eq_false_iff, Bool.not_eq_false', decide_eq_true_eq, decide_eq_false_iff_not, Bool.not_false, Bool.not_true, Bool.and_true, Bool.true_and, Bool.or_false, Bool.false_or, and_true, true_and, Int.ofNat_eq_natCast] at *; omega) | (simp only [Bool.eq_false_iff, ne_eq, Bool.or_eq_true, Bool.and_eq_true, Bool.not_eq_true', decide_eq_true_eq, decide_eq_false_iff_not, Bool.not_false, Bool.not_true, Bool.and_true, Bool.true_and, Bool.or_false, Bool.false_or, and_true, true_and, Int.ofNat_eq_natCast] at *; omega) | (simp only [Bool.or_eq_true, Bool.and_eq_true, Bool.not_eq_true', Bool.or_eq_false_iff, Bool.and_eq_false_iff, Bool.not_eq_false', decide_eq_true_eq, decide_eq_false_iff_not, Bool.not_false, Bool.not_true, Bool.and_true, Bool.true_and, Bool.or_false, Bool.false_or, and_true, true_and, Int.ofNat_eq_natCast] at *; grind) | grind)
      · refine hK _ _ ?_
        cbv
        refine retB hr (hq.trans (diskRight_wr hs (hu'.trans ?_)))
        have : (decide (0 ≤ u.at_) && decide (u.at_ < Int.ofNat d.secs.length)) = false := by
          clear hK ih hC hr hp hu hu' e3
          simp only [e3'] at h3
          (first | (simp only [Bool.or_eq_true, Bool.and_eq_true, Bool.not_eq_true', Bool.or_eq_false_iff, Bool.and_eq_false_iff, Bool.not_eq_false', decide_eq_true_eq, decide_eq_false_iff_not, Bool.not_false, Bool.not_true, Bool.and_true, Bool.true_and, Bool.or_false, Bool.false_or, and_true, true_and, Int.ofNat_eq_natCast] at *; omega) | (simp only [Bool.eq_false_iff, ne_eq, Bool.or_eq_true, Bool.and_eq_true, Bool.not_eq_true', decide_eq_true_eq, decide_eq_false_iff_not, Bool.not_false, Bool.not_true, Bool.and_true, Bool.true_and, Bool.or_false, Bool.false_or, and_true, true_and, Int.ofNat_eq_natCast] at *; omega) | (simp only [Bool.or_eq_true, Bool.and_eq_true, Bool.not_eq_true', Bool.or_eq_false_iff, Bool.and_eq_false_iff, Bool.not_eq_false', decide_eq_true_eq, decide_eq_false_iff_not, Bool.not_false, Bool.not_true, Bool.and_true, Bool.true_and, Bool.or_false, Bool.false_or, and_true, true_and, Int.ofNat_eq_natCast] at *; grind) | grind)
        rw [this, Bool.false_and]
    · have hs : i = d.cache.length := Nat.le_antisymm hi (hwl ▸ iltF hF h)
      have hwr : allTo (wrAt d) d.cache.length = true := hs ▸ allTo_iff.2 hp
      refine hK _ _ ?_
      cbv
      refine retB hr (hq.trans ?_)
      rw [diskRight, decide_eq_true h1, decide_eq_true h2, hsec, hwr]; rfl
/-- Writes done, so many, of which kp says so. -/
def putsTo (d : Dsk) (kp : Nat → Bool) : Nat → List ByteArray
  | 0 => d.secs
  | n + 1 => if kp n then (putsTo d kp n).set (d.cache.getD n default).at_.toNat (d.cache.getD n default).text else putsTo d kp n
theorem putsTo_len (d : Dsk) (kp : Nat → Bool) : ∀ n, (putsTo d kp n).length = d.secs.length
  | 0 => rfl
  | n + 1 => by
    rw [putsTo]
    cases kp n
    · exact putsTo_len d kp n
    · rw [ite_t rfl, List.length_set]; exact putsTo_len d kp n
theorem putsTo_t {d : Dsk} {kp : Nat → Bool} {n : Nat} (h : kp n = true) : putsTo d kp (n + 1) = (putsTo d kp n).set (d.cache.getD n default).at_.toNat (d.cache.getD n default).text := ite_t h
theorem putsTo_f {d : Dsk} {kp : Nat → Bool} {n : Nat} (h : kp n = false) : putsTo d kp (n + 1) = putsTo d kp n := ite_f h
theorem putsTo_congr {d : Dsk} {k1 k2 : Nat → Bool} : ∀ n, (∀ i, i < n → k1 i = k2 i) → putsTo d k1 n = putsTo d k2 n
  | 0, _ => rfl
  | n + 1, h => by rw [putsTo, putsTo, h n (Nat.lt_succ_self n), putsTo_congr n fun i hi => h i (Nat.lt_succ_of_lt hi)]
theorem diskRight_at {d : Dsk} (h : diskRight d = true) {i : Nat} (hi : i < d.cache.length) : 0 ≤ (d.cache.getD i default).at_ ∧ (d.cache.getD i default).at_ < Int.ofNat d.secs.length ∧ (d.cache.getD i default).text.size = 64 := by
  simp only [diskRight, Bool.and_eq_true] at h
  have := allTo_iff.1 h.2 i hi
  simp only [wrAt, Bool.and_eq_true, decide_eq_true_eq] at this
  exact ⟨this.1.1, this.1.2, this.2⟩
theorem diskRight_lens {d : Dsk} (h : diskRight d = true) : d.secs.length ≤ 700 ∧ d.cache.length ≤ 400 := by
  simp only [diskRight, Bool.and_eq_true, decide_eq_true_eq] at h
  exact h.1.1
/-- One sector written. -/
theorem lset_row {F : Prims} (hF : prims = F) {l : List ByteArray} {zs : List (List Y)} (hz : zs = l.map rowS) (i : Int) (t : ByteArray) : F.lset zs i [yS t] = (l.set i.toNat t).map rowS := by
  subst hF hz
  show (l.map rowS).set i.toNat [yS t] = _
  rw [List.map_set]; rfl
def keepAt (all : Bool) (keep : List Bool) (i : Nat) : Bool := all || (decide (i < keep.length) && keep.getD i false)
/-- A disk of two lists of its own. -/
abbrev ownD (s : List ByteArray) (c : List Wr) : Res := ⟨.agg [.own 1 (s.map rowS), .own 2 (c.map Wr.row)], []⟩
def flush (d : Dsk) : Dsk := if diskRight d then ⟨putsTo d (fun _ => true) d.cache.length, []⟩ else d
theorem flush_t {d : Dsk} (h : diskRight d = true) : flush d = ⟨putsTo d (fun _ => true) d.cache.length, []⟩ := ite_t h
theorem flush_f {d : Dsk} (h : diskRight d = false) : flush d = d := ite_f h
theorem Dsk.big {d : Dsk} (h : Dsk.Bd 1048576 d) : Dsk.Bd maxLen d := ⟨⟨Nat.le_trans h.1.1 (by decide), fun v hv => Nat.le_trans (h.1.2 v hv) (by decide)⟩, ⟨Nat.le_trans h.2.1.1 (by decide), fun v hv => ⟨Nat.le_trans (h.2.1.2 v hv).1 (by decide), trivial⟩⟩, trivial⟩
theorem putsTo_bd {d : Dsk} {M : Nat} (h : Dsk.Bd M d) (kp : Nat → Bool) : ∀ n, n ≤ d.cache.length → ∀ u ∈ putsTo d kp n, u.size ≤ M
  | 0, _, u, hu => h.1.2 u hu
  | n + 1, hn, u, hu => by
    cases hk : kp n with
    | false => rw [putsTo_f hk] at hu; exact putsTo_bd h kp n (by omega) u hu
    | true =>
      rw [putsTo_t hk] at hu
      rcases List.mem_or_eq_of_mem_set hu with hu | rfl
      · exact putsTo_bd h kp n (by omega) u hu
      · rw [getD_at (by omega)]
        exact (h.2.1.2 _ (List.getElem_mem (by omega))).1
theorem puts_bd {d : Dsk} {M : Nat} (h : Dsk.Bd M d) (kp : Nat → Bool) : Dsk.Bd M ⟨putsTo d kp d.cache.length, []⟩ := ⟨⟨by rw [putsTo_len]; exact h.1.1, putsTo_bd h kp _ (Nat.le_refl _)⟩, ⟨by simp, by simp⟩, trivial⟩
theorem flush_bd {d : Dsk} {M : Nat} (h : Dsk.Bd M d) : Dsk.Bd M (flush d) := by
  cases hd : diskRight d with
  | true => rw [flush_t hd]; exact puts_bd h _
  | false => rw [flush_f hd]; exact h
end Go.Proofs.YtnieabocheadpaaGreat
