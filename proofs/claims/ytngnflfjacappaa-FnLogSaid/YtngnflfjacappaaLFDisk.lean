/- Functions of the program, each with what it returns, run by the evaluator; the conditions stand in the theorems. -/
import Derived.Test.YtngnflfjacappaaLWrite2
import Derived.Test.YtngnflfjacappaaLCrash
import Derived.Test.YtngnflfjacappaaLLogP
namespace Go.Proofs.Ytngnflfjacappaa
open Go Go.Proofs.YtngnflfjacappaaW Go.Proofs
set_option linter.unusedVariables false
set_option linter.unusedSimpArgs false
set_option maxRecDepth 100000
set_option maxHeartbeats 8000000
/-! What is written to a disk is read. -/
theorem flushedRight {d : Dsk} (h : diskRight d = true) : diskRight ⟨hasD d, []⟩ = true := by
  have h1 := diskRight_lens h
  have h2 : (hasD d).length = d.secs.length := hasD_len d
  have h3 : allTo (secAt (hasD d)) (hasD d).length = true := allTo_iff.2 fun i hi => by
    rw [secAt, getD_at hi]; exact decide_eq_true (hasD_64 h _ (List.getElem_mem _))
  rw [diskRight]
  rw [h3, h2, decide_eq_true h1.1]
  rfl
theorem hasD_flat (l : List ByteArray) : hasD ⟨l, []⟩ = l := rfl
theorem rightOf {d : Dsk} (h1 : d.secs.length ≤ 700) (h2 : d.cache.length ≤ 400) (h3 : ∀ i, i < d.secs.length → (d.secs.getD i noB).size = 64)
    (h4 : ∀ i, i < d.cache.length → 0 ≤ (d.cache.getD i default).at_ ∧ (d.cache.getD i default).at_ < Int.ofNat d.secs.length ∧ (d.cache.getD i default).text.size = 64) : diskRight d = true := by
  rw [diskRight, decide_eq_true h1, decide_eq_true h2, allTo_iff.2 fun i hi => (by rw [secAt]; exact decide_eq_true (h3 i hi)), allTo_iff.2 fun i hi => (by
    obtain ⟨a, b, c⟩ := h4 i hi
    rw [wrAt, decide_eq_true a, decide_eq_true b, decide_eq_true c]; rfl)]
  rfl
theorem right_sec {d : Dsk} (h : diskRight d = true) {i : Nat} (hi : i < d.secs.length) : (d.secs.getD i noB).size = 64 := by
  simp only [diskRight, Bool.and_eq_true] at h
  have := allTo_iff.1 h.1.2 i hi
  rw [secAt] at this
  exact of_decide_eq_true this
/-- What was written: the numbers are as they were said. -/
structure Wrote (d : Dsk) (t : ByteArray) (A : Nat) (D : Dsk) : Prop where
  secs : D.secs = d.secs
  cache : D.cache = d.cache ++ wrsL t (Int.ofNat A) (manyOf t)
  right : diskRight d = true
  lies : A + manyOf t ≤ d.secs.length
  room : d.cache.length + manyOf t ≤ 400
theorem wrote_of {d : Dsk} {a : Int} {t : ByteArray} (h : dwCode d a t = 0) : ∃ A : Nat, a = Int.ofNat A ∧ Wrote d t A (dwDisk d a t) := by
  rw [dwCode] at h
  cases ht : tooLong t with
  | true => rw [ht] at h; cases h
  | false =>
    rw [ht] at h
    cases hd : diskRight d with
    | false => rw [hd] at h; cases h
    | true =>
      rw [hd] at h
      have h : wrCode d a t = 0 := h
      have hD : dwDisk d a t = ⟨d.secs, d.cache ++ wrsL t a (manyOf t)⟩ := by
        rw [dwDisk, ht, hd]
        show wrDisk d a t = _
        rw [wrDisk, if_pos h]
      rw [wrCode] at h
      split at h
      · rename_i hb
        rw [Bool.and_eq_true, decide_eq_true_eq, decide_eq_true_eq] at hb
        split at h
        · cases h
        · rename_i hc
          obtain ⟨A, hA⟩ : ∃ A : Nat, a = Int.ofNat A := ⟨a.toNat, (Int.toNat_of_nonneg hb.1).symm⟩
          subst hA
          exact ⟨A, rfl, by rw [hD], by rw [hD], hd, by ((try simp only [Int.ofNat_eq_natCast] at *); omega), by omega⟩
      · cases h
theorem wrsL_at (t : ByteArray) (a : Int) {n i : Nat} (h : i < n) : (wrsL t a n).getD i default = ⟨a + Int.ofNat i, piece t i⟩ := by
  rw [getD_at (by rw [wrsL_len]; exact h)]
  simp [wrsL]
theorem Wrote.at1 {d : Dsk} {t : ByteArray} {A : Nat} {D : Dsk} (w : Wrote d t A D) {i : Nat} (h : i < d.cache.length) : D.cache.getD i default = d.cache.getD i default := by
  rw [w.cache, List.getD_eq_getElem?_getD, List.getElem?_append_left h, ← List.getD_eq_getElem?_getD]
theorem Wrote.at2 {d : Dsk} {t : ByteArray} {A : Nat} {D : Dsk} (w : Wrote d t A D) {i : Nat} (h : i < manyOf t) : D.cache.getD (d.cache.length + i) default = ⟨Int.ofNat (A + i), piece t i⟩ := by
  rw [w.cache, List.getD_eq_getElem?_getD, List.getElem?_append_right (by omega), ← List.getD_eq_getElem?_getD, show d.cache.length + i - d.cache.length = i by omega, wrsL_at t _ h]
  rfl
theorem Wrote.len {d : Dsk} {t : ByteArray} {A : Nat} {D : Dsk} (w : Wrote d t A D) : D.cache.length = d.cache.length + manyOf t := by rw [w.cache, List.length_append, wrsL_len]
theorem Wrote.ok {d : Dsk} {t : ByteArray} {A : Nat} {D : Dsk} (w : Wrote d t A D) : diskRight D = true := by
  have hl := diskRight_lens w.right
  refine rightOf (by rw [w.secs]; exact hl.1) (by rw [w.len]; exact w.room) (fun i hi => ?_) (fun i hi => ?_)
  · rw [w.secs] at hi ⊢
    exact right_sec w.right hi
  · rw [w.len] at hi
    rw [w.secs]
    by_cases h : i < d.cache.length
    · rw [w.at1 h]
      exact diskRight_at w.right h
    · obtain ⟨j, rfl⟩ : ∃ j, i = d.cache.length + j := ⟨i - d.cache.length, by omega⟩
      have hj : j < manyOf t := by omega
      rw [w.at2 hj]
      exact ⟨Int.natCast_nonneg _, by have := w.lies; show Int.ofNat (A + j) < Int.ofNat d.secs.length; ((try simp only [Int.ofNat_eq_natCast] at *); omega), piece_size t j⟩
/-- What is had after so many of the new writes. -/
theorem Wrote.has {d : Dsk} {t : ByteArray} {A : Nat} {D : Dsk} (w : Wrote d t A D) : ∀ n, n ≤ manyOf t → ∀ k, (putsTo D (fun _ => true) (d.cache.length + n))[k]? = if A ≤ k ∧ k < A + n then some (piece t (k - A)) else (hasD d)[k]? := by
  have base : ∀ n, n ≤ d.cache.length → putsTo D (fun _ => true) n = putsTo d (fun _ => true) n := fun n => by
    induction n with
    | zero => intro _; exact w.secs
    | succ n ih =>
      intro hn
      rw [putsTo_t rfl, putsTo_t rfl, ih (by omega), w.at1 (by omega)]
  intro n
  induction n with
  | zero =>
    intro _ k
    rw [if_neg (by omega), Nat.add_zero, base _ (Nat.le_refl _)]
    rfl
  | succ n ih =>
    intro hn k
    rw [← Nat.add_assoc, putsTo_t rfl, w.at2 (by omega)]
    rw [show (Int.ofNat (A + n)).toNat = A + n from rfl, List.getElem?_set]
    have hlen : (putsTo D (fun _ => true) (d.cache.length + n)).length = d.secs.length := by rw [putsTo_len, w.secs]
    have hl := w.lies
    by_cases hk : A + n = k
    · rw [if_pos hk, if_pos (by rw [hlen]; omega), if_pos (by omega), ← hk, show A + n - A = n by omega]
    · rw [if_neg hk, ih (by omega)]
      by_cases h2 : A ≤ k ∧ k < A + n
      · rw [if_pos h2, if_pos (by omega)]
      · rw [if_neg h2, if_neg (by omega)]
theorem Wrote.hasAll {d : Dsk} {t : ByteArray} {A : Nat} {D : Dsk} (w : Wrote d t A D) (k : Nat) : (hasD D)[k]? = if A ≤ k ∧ k < A + manyOf t then some (piece t (k - A)) else (hasD d)[k]? := by
  have := w.has (manyOf t) (Nat.le_refl _) k
  rw [← w.len] at this
  exact this
theorem joinE_pieces (t : ByteArray) : ∀ n, catL (piecesL t n) = t.data.toList.take (64 * n) ++ List.replicate (64 * n - t.size) 0 := by
  intro n
  induction n with
  | zero => simp [piecesL, catL]
  | succ n ih =>
    rw [piecesL_succ, catL_append, ih]
    have hp : catL [piece t n] = (restL t n).take 64 ++ List.replicate (64 - (restL t n).length) 0 := by simp [catL, piece]
    have hsz : t.data.toList.length = t.size := rfl
    rw [hp, restL_len, restL]
    by_cases h : 64 * n ≤ t.size
    · rw [show 64 * n - t.size = 0 by omega, List.replicate_zero, List.append_nil, ← List.append_assoc, show 64 * (n + 1) = 64 * n + 64 by omega, List.take_add, show 64 - (t.size - 64 * n) = 64 * n + 64 - t.size by omega]
    · rw [List.take_of_length_le (i := 64 * n) (by omega), List.drop_of_length_le (by omega), List.take_of_length_le (i := 64 * (n + 1)) (by omega), List.take_nil, List.nil_append, List.append_assoc, List.replicate_append_replicate, show 64 * n - t.size + (64 - (t.size - 64 * n)) = 64 * (n + 1) - t.size by omega]
theorem Wrote.secs_at {d : Dsk} {t : ByteArray} {A : Nat} {D : Dsk} (w : Wrote d t A D) : secsAt D A (manyOf t) = piecesL t (manyOf t) := by
  refine List.ext_getElem? fun k => ?_
  have hl := w.lies
  rw [secsAt, List.getElem?_take]
  by_cases hk : k < manyOf t
  · rw [if_pos hk, List.getElem?_drop, w.hasAll, if_pos (by omega), show A + k - A = k by omega]
    simp [piecesL, hk]
  · rw [if_neg hk]
    simp [piecesL, hk]
theorem text_back (t : ByteArray) : (joinE (piecesL t (manyOf t))).size = 64 * manyOf t ∧ (joinE (piecesL t (manyOf t))).extract 0 t.size = t := by
  have h := joinE_pieces t (manyOf t)
  have hm : t.size ≤ 64 * manyOf t := by rw [manyOf]; omega
  have hsz : t.data.toList.length = t.size := rfl
  rw [List.take_of_length_le (by omega)] at h
  refine ⟨?_, baExt ?_⟩
  · show (catL _).length = _
    rw [h, List.length_append, List.length_replicate, hsz]; omega
  · rw [extList, List.drop_zero]
    show (catL _).take t.size = _
    rw [h, List.take_left' hsz]
theorem rd_one {d : Dsk} (h : diskRight d = true) {i : Nat} (hi : i < d.secs.length) : rdText d (Int.ofNat i) 1 = ((hasD d)[i]?).getD noB := by
  have ho : rdOk d (Int.ofNat i) 1 = true := by
    rw [rdOk]
    simp only [Bool.and_eq_true, decide_eq_true_eq]
    exact ⟨⟨⟨by decide, by decide⟩, Int.natCast_nonneg _⟩, by ((try simp only [Int.ofNat_eq_natCast] at *); omega)⟩
  rw [rdText, h, ho]
  show joinE (((hasD d).drop i).take 1) = _
  have hl : i < (hasD d).length := by rw [hasD_len]; exact hi
  rw [List.drop_eq_getElem_cons hl, List.take_succ_cons, List.take_zero, List.getElem?_eq_getElem hl]
  refine baExt ?_
  simp [joinE, catL]
theorem rd_wrote {d : Dsk} {t : ByteArray} {A : Nat} {D : Dsk} (w : Wrote d t A D) (hm : manyOf t ≤ 300) : rdText D (Int.ofNat A) (Int.ofNat (manyOf t)) = joinE (piecesL t (manyOf t)) ∧ rdCode D (Int.ofNat A) (Int.ofNat (manyOf t)) = 0 := by
  have hl := w.lies
  have ho : rdOk D (Int.ofNat A) (Int.ofNat (manyOf t)) = true := by
    rw [rdOk, w.secs]
    simp only [Bool.and_eq_true, decide_eq_true_eq]
    exact ⟨⟨⟨Int.natCast_nonneg _, by ((try simp only [Int.ofNat_eq_natCast] at *); omega)⟩, Int.natCast_nonneg _⟩, by ((try simp only [Int.ofNat_eq_natCast] at *); omega)⟩
  refine ⟨?_, ?_⟩
  · rw [rdText, w.ok, ho]
    show joinE (secsAt D A (manyOf t)) = _
    rw [w.secs_at]
  · rw [rdCode, w.ok, ho]; rfl
/-- All that is asked. -/
theorem flush_is {d : Dsk} (h : diskRight d = true) : flush d = ⟨hasD d, []⟩ := flush_t h
theorem rd_flush {d : Dsk} (h : diskRight d = true) (a m : Int) : rdText (flush d) a m = rdText d a m ∧ rdCode (flush d) a m = rdCode d a m := by
  rw [flush_is h]
  have hr := flushedRight h
  have ho : rdOk ⟨hasD d, []⟩ a m = rdOk d a m := by rw [rdOk, rdOk]; show _ = _; rw [hasD_len]
  rw [rdText, rdText, rdCode, rdCode, hr, h, ho]
  exact ⟨rfl, rfl⟩
theorem crash_all {d : Dsk} (h : diskRight d = true) : crash d (List.replicate d.cache.length true) = flush d := by
  have hl := diskRight_lens h
  rw [crash_t (by rw [List.length_replicate]; omega) h, flush_t h]
  congr 1
  exact putsTo_congr _ fun i hi => by
    rw [keepAt, List.length_replicate, decide_eq_true hi, getD_at (by rw [List.length_replicate]; exact hi), List.getElem_replicate]; rfl
theorem crash_none {d : Dsk} (h : diskRight d = true) : crash d [] = ⟨d.secs, []⟩ := by
  rw [crash_t (by simp) h]
  congr 1
  have : ∀ n, putsTo d (keepAt false []) n = d.secs := fun n => by
    induction n with
    | zero => rfl
    | succ n ih => rw [putsTo_f (by rfl), ih]
  exact this _
theorem rd_crash {d : Dsk} (h : diskRight d = true) {i : Nat} (hi : i < d.secs.length) : rdText (crash d []) (Int.ofNat i) 1 = d.secs.getD i noB := by
  rw [crash_none h, rd_one (d := ⟨d.secs, []⟩) ?_ hi, hasD_flat]
  · rw [List.getD_eq_getElem?_getD]
  · exact rightOf (diskRight_lens h).1 (by simp) (fun i hi => right_sec h hi) (fun i hi => absurd hi (by simp))
theorem rd_other {d : Dsk} {t : ByteArray} {A : Nat} {D : Dsk} (w : Wrote d t A D) {k : Nat} (hk : k < d.secs.length) (ho : k < A ∨ A + manyOf t ≤ k) : rdText D (Int.ofNat k) 1 = rdText d (Int.ofNat k) 1 := by
  rw [rd_one w.ok (by rw [w.secs]; exact hk), rd_one w.right hk, w.hasAll, if_neg (by omega)]
end Go.Proofs.Ytngnflfjacappaa
