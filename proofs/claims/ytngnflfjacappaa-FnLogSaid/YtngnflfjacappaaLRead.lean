/- Functions of the program, each with what it returns, run by the evaluator; the conditions stand in the theorems. -/
import Derived.Test.YtngnflfjacappaaLShf
import Derived.Test.YtngnflfjacappaaLDisk
namespace Go.Proofs.Ytngnflfjacappaa
open Go Go.Proofs.YtngnflfjacappaaW Go.Proofs
set_option linter.unusedVariables false
set_option linter.unusedSimpArgs false
set_option maxRecDepth 100000
set_option maxHeartbeats 8000000
/-- What all sectors have. -/
def hasD (d : Dsk) : List ByteArray := putsTo d (fun _ => true) d.cache.length
theorem hasD_len (d : Dsk) : (hasD d).length = d.secs.length := putsTo_len ..
theorem putsTo_64 {d : Dsk} (h : diskRight d = true) (kp : Nat → Bool) : ∀ n, n ≤ d.cache.length → ∀ u ∈ putsTo d kp n, u.size = 64
  | 0, _, u, hu => by
    simp only [diskRight, Bool.and_eq_true] at h
    obtain ⟨i, hi, rfl⟩ := List.mem_iff_getElem.1 hu
    have := allTo_iff.1 h.1.2 i hi
    rw [secAt, getD_at (show i < d.secs.length from hi)] at this
    exact of_decide_eq_true this
  | n + 1, hn, u, hu => by
    cases hk : kp n with
    | false => rw [putsTo_f hk] at hu; exact putsTo_64 h kp n (by omega) u hu
    | true =>
      rw [putsTo_t hk] at hu
      rcases List.mem_or_eq_of_mem_set hu with hu | rfl
      · exact putsTo_64 h kp n (by omega) u hu
      · exact (diskRight_at h (i := n) (by omega)).2.2
theorem hasD_64 {d : Dsk} (h : diskRight d = true) : ∀ u ∈ hasD d, u.size = 64 := putsTo_64 h _ _ (Nat.le_refl _)
/-- Sectors from one on, so many at most. -/
def secsAt (d : Dsk) (at_ many : Nat) : List ByteArray := ((hasD d).drop at_).take many
theorem secsAt_64 {d : Dsk} (h : diskRight d = true) {a m : Nat} : ∀ u ∈ secsAt d a m, u.size ≤ 64 := fun u hu => Nat.le_of_eq (hasD_64 h u (List.mem_of_mem_drop (List.mem_of_mem_take hu)))
theorem secsAt_len {d : Dsk} (h : diskRight d = true) {a m : Nat} : (secsAt d a m).length ≤ 700 := by
  rw [secsAt, List.length_take, List.length_drop, hasD_len]
  have := (diskRight_lens h).1
  omega
theorem secsAt_cat {d : Dsk} (h : diskRight d = true) {a m : Nat} : (catL (secsAt d a m)).length ≤ 44800 := by
  have h1 := catL_len (secsAt_64 h (a := a) (m := m))
  have h2 := secsAt_len h (a := a) (m := m)
  omega
theorem bytesL_append (a b : List UInt8) : bytesL (a ++ b) = bytesL a ++ bytesL b := by simp [bytesL]
theorem bytesIs {F : Prims} (hF : prims = F) (s : ByteArray) : F.bytes s = bytesL s.data.toList := by subst hF; rfl
theorem l07Text_ok (d : Dsk) (a m : Nat) (hd : diskRight d = true) (ha : a ≤ 1000000000000) (hm : m ≤ 1000) : CallOK Try.prog 39 [.agg [.y (.sl 1 (d.secs.map rowS)), .y (.sl 2 (d.cache.map Wr.row))], aN (Int.ofNat a), aN (Int.ofNat m)] (St (joinE (secsAt d a m))) := by
  have c1 := l07Flush_ok d [] true hd (by simp)
  have e : ∀ n, putsTo d (keepAt true []) n = putsTo d (fun _ => true) n := fun n => putsTo_congr n fun i hi => rfl
  rw [e, List.map_nil] at c1
  have h64 := secsAt_64 hd (a := a) (m := m)
  have hln := secsAt_len hd (a := a) (m := m)
  have hcat := secsAt_cat hd (a := a) (m := m)
  have hl700 := (diskRight_lens hd).1
  rw [← hasD_len d] at hl700
  rw [show putsTo d (fun _ => true) d.cache.length = hasD d from rfl] at c1
  have hsec : ∀ i, i < (secsAt d a m).length → i < m ∧ a + i < (hasD d).length := fun i hi => by
    rw [secsAt, List.length_take, List.length_drop] at hi; omega
  have hget : ∀ i (h : i < (secsAt d a m).length), (secsAt d a m)[i] = (hasD d)[a + i]'(hsec i h).2 := fun i h => by
    simp only [secsAt, List.getElem_take, List.getElem_drop]
  have hout : ∀ i, ¬ i < (secsAt d a m).length → i ≤ m → i = m ∨ (hasD d).length ≤ a + i := fun i hi h => by
    rw [secsAt, List.length_take, List.length_drop] at hi; omega
  obtain ⟨H, hH⟩ : ∃ H, H = hasD d := ⟨_, rfl⟩
  obtain ⟨L, hL⟩ : ∃ L, L = secsAt d a m := ⟨_, rfl⟩
  obtain ⟨q, hq⟩ : ∃ q, q = joinE (secsAt d a m) := ⟨_, rfl⟩
  rw [← hq]
  rw [← hL] at hq h64 hln hcat hsec hout
  simp only [← hL, ← hH] at hget hsec hout
  rw [← hH] at c1 hl700
  obtain ⟨am, ham⟩ : ∃ am, am = a + m := ⟨_, rfl⟩
  obtain ⟨M, hM⟩ := mapEx
  try simp only [hM]
  refine go Try.func39 rfl rfl rfl rfl fun pAdd pSub pMul pQuo pRem pAnd pOr pXor pAndNot pShl pShr pNeg pCompl pConv pLt pLe pEq pSlt pSle pSeq pCat pCatOk pSlen pSsub pSat pIadd pIsub pBnot pBeq pImin pImax pLlen pLsub pLapp pLset pLcopy pLenOk pBytes pRep hF Ca hC r hr => ?_
  cbv
  refine callI hC (by have hh := c1; (try simp only [hM, List.map_nil] at hh); exact hh) ?_
  cbv
  have lH : pLlen (M rowS H) = Int.ofNat H.length := (llenIs hF _).trans (by rw [← hM, List.length_map]; rfl)
  obtain ⟨nH, hnH⟩ : ∃ n, n = H.length := ⟨_, rfl⟩
  rw [← hnH] at lH hl700
  have eam : pAdd .i64 (Int.ofNat a) (Int.ofNat m) = Int.ofNat am := ham ▸ addNIs hF (by omega)
  have mle : L.length ≤ m := by rw [hL, secsAt, List.length_take]; omega
  refine loop_u (α := Nat × Nat × List (List Y)) (fun z st => (st.n 9 (Int.ofNat z.2.1)).ob 8001 (.ar 1 z.2.2)) (fun z => z.1 ≤ L.length ∧ z.2.1 = a + z.1 ∧ z.2.2 = bytesL (catL (L.take z.1))) (fun z => L.length - z.1) (0, a, []) rfl ⟨by omega, by dsimp only; omega, rfl⟩ (fun K' hK I z hi ih1 => ?_)
  obtain ⟨i, j, bs⟩ := z
  obtain ⟨hi, hj, hb⟩ := hi
  dsimp only at hi hj hb
  cbv
  rw [eam]
  by_cases hil : i < L.length
  · have hs := hsec i hil
    refine brT (mkLt hF (by ((try simp only [Int.ofNat_eq_natCast] at *); omega))) ?_
    try cbv
    rw [lH]
    refine brT (mkLt hF (by ((try simp only [Int.ofNat_eq_natCast] at *); omega))) ?_
    try cbv
    have hs2 : j < H.length := by omega
    refine brT (zeroLe hF j) ?_
    try cbv
    rw [lH]
    refine brT (mkLt hF (by ((try simp only [Int.ofNat_eq_natCast] at *); omega))) ?_
    try cbv
    refine lgetM (l := H) (fun u => [yS u]) (fun u => by simp only [rowS]) (hM _ _).symm hs2 fun u hu => ?_
    cbv
    have hu2 : u = L[i] := by rw [hget i hil, hu]; congr 1
    have hus : u.size ≤ 64 := h64 u (hu2 ▸ List.getElem_mem hil)
    have eb : pBytes u = bytesL u.data.toList := bytesIs hF u
    have hbl : bs.length ≤ 64 * i := by
      rw [hb]
      have := catL_len (M := 64) (xs := L.take i) fun x hx => h64 x (List.mem_of_mem_take hx)
      rw [List.length_take] at this
      simp only [bytesL, List.length_map]
      have : min i L.length = i := by omega
      rw [this] at *; omega
    have g : pLenOk (pIadd (pLlen bs) (pLlen (pBytes u))) = true := by
      rw [eb, show pLlen bs = Int.ofNat bs.length from llenIs hF bs, show pLlen (bytesL u.data.toList) = Int.ofNat u.size from (llenIs hF _).trans (by simp only [bytesL, List.length_map]; rfl)]
      have e5 : pIadd (Int.ofNat bs.length) (Int.ofNat u.size) = Int.ofNat bs.length + Int.ofNat u.size := by
        have : prims.iadd (Int.ofNat bs.length) (Int.ofNat u.size) = Int.ofNat bs.length + Int.ofNat u.size := rfl
        rw [hF] at this; exact this
      rw [e5]
      exact lenOkIs hF (by ((try simp only [Int.ofNat_eq_natCast] at *); omega))
    refine brT g ?_
    try cbv
    have e6 : pLapp bs (pBytes u) = bytesL (catL (L.take (i + 1))) := by
      have : pLapp bs (pBytes u) = bs ++ pBytes u := lappIs hF _ _
      rw [this, eb, hb, ← bytesL_append]
      rw [List.take_succ_eq_append_getElem hil, catL_append, ← hu2]
      simp [catL]
    have e7 : pAdd .i64 (Int.ofNat j) 1 = Int.ofNat (j + 1) := add1Is hF (by omega)
    conv => arg 1; cbv
    rw [e6, e7]
    exact ih1 (i + 1, j + 1, _) _ ⟨by dsimp only; omega, by dsimp only; omega, rfl⟩ (by dsimp only; omega) rfl
  · have hiL : i = L.length := by omega
    have hout := hout i hil (by omega)
    have fin : ∃ b, BytesOf bs b ∧ b = q := ⟨q, ⟨by rw [hb, hq, hiL, List.take_length]; rfl⟩, rfl⟩
    obtain ⟨b, hb1, hb2⟩ := fin
    by_cases him : i = m
    · refine brF (mkNlt hF (by ((try simp only [Int.ofNat_eq_natCast] at *); omega))) ?_
      try cbv
      refine hK _ _ ?_
      cbv
      refine ⟨b, hb1, ?_⟩
      cbv
      exact retS hr hb2.symm
    · have hout := hout.resolve_left him
      refine brT (mkLt hF (by ((try simp only [Int.ofNat_eq_natCast] at *); omega))) ?_
      try cbv
      rw [lH]
      refine brF (mkNlt hF (by ((try simp only [Int.ofNat_eq_natCast] at *); omega))) ?_
      try cbv
      refine hK _ _ ?_
      cbv
      refine ⟨b, hb1, ?_⟩
      cbv
      exact retS hr hb2.symm
end Go.Proofs.Ytngnflfjacappaa
