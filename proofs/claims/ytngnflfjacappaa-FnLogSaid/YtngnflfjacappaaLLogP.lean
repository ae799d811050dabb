/- Functions of the program, each with what it returns, run by the evaluator; the conditions stand in the theorems. -/
import Derived.Test.YtngnflfjacappaaLHead
import Derived.Test.YtngnflfjacappaaLRead
namespace Go.Proofs.Ytngnflfjacappaa
open Go Go.Proofs.YtngnflfjacappaaW Go.Proofs
set_option linter.unusedVariables false
set_option linter.unusedSimpArgs false
set_option maxRecDepth 100000
set_option maxHeartbeats 8000000
/-! What is read of a log: of the bytes to the disk's end, and of so many at most, the same. -/
theorem satNat (s : ByteArray) (i : Nat) : prims.sat s (Int.ofNat i) = Int.ofNat ((s.data.toList[i]?).getD 0).toNat := by
  show ((s[(Int.ofNat i).toNat]?).map fun b => (b.toNat : Int)).getD 0 = _
  rw [show (Int.ofNat i).toNat = i from rfl]
  have e : s[i]? = s.data.toList[i]? := by
    rw [Array.getElem?_toList]
    rfl
  rw [e]
  cases s.data.toList[i]? <;> rfl
theorem extList (a : ByteArray) (i j : Nat) : (a.extract i j).data.toList = (a.data.toList.take j).drop i := by
  simp [List.drop_take, List.extract]
theorem baExt {a b : ByteArray} (h : a.data.toList = b.data.toList) : a = b := by
  cases a with | mk x => cases b with | mk y => cases x with | mk l => cases y with | mk k => cases h; rfl
structure Agree (s s' : ByteArray) (m : Nat) : Prop where
  a : m ≤ s.size
  b : m ≤ s'.size
  t : s.data.toList.take m = s'.data.toList.take m
theorem Agree.sat {s s' : ByteArray} {m : Nat} (h : Agree s s' m) {i : Nat} (hi : i < m) : prims.sat s (Int.ofNat i) = prims.sat s' (Int.ofNat i) := by
  rw [satNat, satNat]
  have e := congrArg (fun l => l[i]?) h.t
  simp only [List.getElem?_take_of_lt hi] at e
  rw [e]
theorem Agree.ext {s s' : ByteArray} {m : Nat} (h : Agree s s' m) {i j : Nat} (hj : j ≤ m) : s.extract i j = s'.extract i j := by
  refine baExt ?_
  rw [extList, extList]
  have e := congrArg (fun l => l.take j) h.t
  simp only [List.take_take, Nat.min_eq_left hj] at e
  rw [e]
theorem numGo_at (s : ByteArray) (p : Nat) : ∀ (k : Nat) (u : Int) (i : Nat), (numGo s (Int.ofNat p) k u i).2.2 = 0 → Int.ofNat (p + i) < (numGo s (Int.ofNat p) k u i).2.1 ∧ (numGo s (Int.ofNat p) k u i).2.1 ≤ Int.ofNat (p + i + k)
  | 0, _, _, h => by cases h
  | k + 1, u, i, h => by
    rw [numGo] at h ⊢
    split at h
    · cases h
    · rename_i h1
      rw [if_neg h1]
      split at h
      · cases h
      · rename_i h2
        rw [if_neg h2]
        split at h
        · rename_i h3
          rw [if_pos h3]
          split at h
          · cases h
          · rename_i h4
            rw [if_neg h4]
            constructor <;> dsimp only <;> ((try simp only [Int.ofNat_eq_natCast] at *); omega)
        · rename_i h3
          rw [if_neg h3]
          have := numGo_at s p k _ (i + 1) h
          constructor <;> ((try simp only [Int.ofNat_eq_natCast] at *); omega)
theorem numGo_agree {s s' : ByteArray} {m : Nat} (ag : Agree s s' m) (p : Nat) : ∀ (k : Nat) (u : Int) (i : Nat), (numGo s (Int.ofNat p) k u i).2.2 = 0 → (numGo s (Int.ofNat p) k u i).2.1 ≤ Int.ofNat m → numGo s' (Int.ofNat p) k u i = numGo s (Int.ofNat p) k u i
  | 0, _, _, h, _ => by cases h
  | k + 1, u, i, h, hm => by
    have hat := (numGo_at s p (k + 1) u i h).1
    have hlt : p + i < m := by ((try simp only [Int.ofNat_eq_natCast] at *); omega)
    have e : at1 s' (Int.ofNat p) i = at1 s (Int.ofNat p) i := by
      rw [at1, at1, show Int.ofNat p + Int.ofNat i = Int.ofNat (p + i) from rfl, ag.sat hlt]
    have h1' : ¬ Int.ofNat s'.size - Int.ofNat i ≤ Int.ofNat p := by have := ag.b; ((try simp only [Int.ofNat_eq_natCast] at *); omega)
    have h1 : ¬ Int.ofNat s.size - Int.ofNat i ≤ Int.ofNat p := by have := ag.a; ((try simp only [Int.ofNat_eq_natCast] at *); omega)
    rw [numGo, if_neg h1', e, numGo, if_neg h1]
    rw [numGo, if_neg h1] at h hm
    split at h
    · cases h
    · rename_i h2
      rw [if_neg h2] at hm ⊢
      rw [if_neg h2]
      split at h
      · rename_i h3
        rw [if_pos h3, if_pos h3]
      · rename_i h3
        rw [if_neg h3] at hm
        rw [if_neg h3, if_neg h3]
        exact numGo_agree ag p k _ (i + 1) h hm
theorem numOf_agree {s s' : ByteArray} {m : Nat} (ag : Agree s s' m) (p : Nat) (h : (numOf s (Int.ofNat p)).2.2 = 0) (hm : (numOf s (Int.ofNat p)).2.1 ≤ Int.ofNat m) : numOf s' (Int.ofNat p) = numOf s (Int.ofNat p) := by
  have hp : ¬ Int.ofNat p < 0 := by ((try simp only [Int.ofNat_eq_natCast] at *); omega)
  rw [numOf, if_neg hp] at h hm
  rw [numOf, if_neg hp, numOf, if_neg hp]
  exact numGo_agree ag p 10 0 0 h hm
theorem numOf_at10 {s : ByteArray} {p : Nat} (h : (numOf s (Int.ofNat p)).2.2 = 0) : (numOf s (Int.ofNat p)).2.1 ≤ Int.ofNat (p + 10) := by
  have hp : ¬ Int.ofNat p < 0 := by ((try simp only [Int.ofNat_eq_natCast] at *); omega)
  rw [numOf, if_neg hp] at h ⊢
  exact (numGo_at s p 10 0 0 h).2
theorem wordOf_agree {s s' : ByteArray} {m : Nat} (ag : Agree s s' m) (p : Nat) (h : (wordOf s (Int.ofNat p)).2.2 = 0) (hm : (wordOf s (Int.ofNat p)).2.1 ≤ Int.ofNat m) : wordOf s' (Int.ofNat p) = wordOf s (Int.ofNat p) := by
  obtain ⟨_, _, wf⟩ := wordOf_facts s (Int.ofNat p)
  obtain ⟨w1, w2, w3, w4, w5, w6⟩ := wf h
  have nf := numOf_facts s (Int.ofNat p)
  have e := numOf_agree ag p w1 (by omega)
  rw [w4] at hm
  rw [wordOf, e, wordOf, if_neg (fun hh => hh w1), if_neg (by omega), if_neg (by have := ag.b; ((try simp only [Int.ofNat_eq_natCast] at *); omega)), if_neg (fun hh => hh w1), if_neg (by omega), if_neg (by have := ag.a; ((try simp only [Int.ofNat_eq_natCast] at *); omega))]
  rw [ag.ext (by ((try simp only [Int.ofNat_eq_natCast] at *); omega))]
theorem hdOk_agree {s s' : ByteArray} {m : Nat} (ag : Agree s s' m) (h : hdOk s = true) (hm : (hdW s).2.1 + 4 ≤ Int.ofNat m) : hdOk s' = true ∧ hdN s' = hdN s ∧ hdW s' = hdW s := by
  have h0 := h
  simp only [hdOk, Bool.and_eq_true, decide_eq_true_eq] at h
  obtain ⟨⟨⟨⟨h1, h2⟩, h3⟩, h4⟩, h5⟩ := h
  have nf := numOf_facts s 1
  have nf2 : 0 ≤ (hdN s).2.1 := nf.2.1
  obtain ⟨w0, _, wf⟩ := wordOf_facts s (hdN s).2.1
  obtain ⟨w1, w2, w3, w4, w5, w6⟩ := wf h3
  have w0 : 0 ≤ (hdW s).2.1 := w0
  obtain ⟨a, ha⟩ : ∃ a : Nat, (hdN s).2.1 = Int.ofNat a := ⟨_, (Int.toNat_of_nonneg nf2).symm⟩
  have w7 := (numOf_facts s (hdN s).2.1).2.2.2 w1
  have eN : hdN s' = hdN s := numOf_agree ag 1 h2 (show (hdN s).2.1 ≤ _ by
    have : (hdW s).2.1 = (numOf s (hdN s).2.1).2.1 + (numOf s (hdN s).2.1).1 := w4
    omega)
  have eW : hdW s' = hdW s := by
    have h3' : (wordOf s (hdN s).2.1).2.2 = 0 := h3
    have h4' : (wordOf s (hdN s).2.1).2.1 ≤ Int.ofNat m := by have : (wordOf s (hdN s).2.1).2.1 = (hdW s).2.1 := rfl; omega
    rw [ha] at h3' h4'
    have := wordOf_agree ag a h3' h4'
    show wordOf s' (hdN s').2.1 = wordOf s (hdN s).2.1
    rw [eN, ha]; exact this
  refine ⟨?_, eN, eW⟩
  have hm0 : 0 < m := by ((try simp only [Int.ofNat_eq_natCast] at *); omega)
  rw [hdOk, eN, eW]
  simp only [Bool.and_eq_true, decide_eq_true_eq]
  refine ⟨⟨⟨⟨?_, h2⟩, h3⟩, by have := ag.b; ((try simp only [Int.ofNat_eq_natCast] at *); omega)⟩, ?_⟩
  · rw [hd1, show prims.sat s' 0 = prims.sat s 0 from (ag.sat hm0).symm]
    rw [hd1] at h1
    simp only [Bool.and_eq_true, decide_eq_true_eq] at h1 ⊢
    exact ⟨by have := ag.b; omega, h1.2⟩
  · rw [hdSum] at h5 ⊢
    rw [← ag.ext (show (hdW s).2.1.toNat ≤ m by ((try simp only [Int.ofNat_eq_natCast] at *); omega)), ← ag.ext (show (hdW s).2.1.toNat + 4 ≤ m by ((try simp only [Int.ofNat_eq_natCast] at *); omega))]
    exact h5
/-- What is taken as the record of a number. -/
def good (t : ByteArray) (seq : Int) : Bool := hdOk t && recordRight (hdN t).1 (hdW t).1 && decide ((hdN t).1 = seq)
theorem ext_size6000 {s : ByteArray} (h : hdOk s = true) (hr : (hdW s).1.size ≤ 6000) : (hdW s).2.1 + 4 ≤ 6400 := by
  simp only [hdOk, Bool.and_eq_true, decide_eq_true_eq] at h
  obtain ⟨⟨⟨⟨h1, h2⟩, h3⟩, h4⟩, h5⟩ := h
  have nf := numOf_facts s 1
  have nf2 : 0 ≤ (hdN s).2.1 := nf.2.1
  obtain ⟨w0, _, wf⟩ := wordOf_facts s (hdN s).2.1
  obtain ⟨w1, w2, w3, w4, w5, w6⟩ := wf h3
  have n1 := numOf_at10 (s := s) (p := 1) h2
  obtain ⟨a, ha⟩ : ∃ a : Nat, (hdN s).2.1 = Int.ofNat a := ⟨_, (Int.toNat_of_nonneg nf2).symm⟩
  have n1 : (hdN s).2.1 ≤ Int.ofNat (1 + 10) := n1
  have w1' := w1
  rw [ha] at w1'
  have n2 := numOf_at10 (s := s) (p := a) w1'
  rw [← ha] at n2
  have nf3 := numOf_facts s (hdN s).2.1
  have w5' : (hdW s).1.size = (numOf s (hdN s).2.1).1.toNat := by
    rw [show (hdW s).1 = _ from w5, ByteArray.size_extract]
    have : (hdW s).2.1 = (numOf s (hdN s).2.1).2.1 + (numOf s (hdN s).2.1).1 := w4
    ((try simp only [Int.ofNat_eq_natCast] at *); omega)
  have : (hdW s).2.1 = (numOf s (hdN s).2.1).2.1 + (numOf s (hdN s).2.1).1 := w4
  ((try simp only [Int.ofNat_eq_natCast] at *); omega)
theorem good_text {t : ByteArray} {seq : Int} (h : good t seq = true) : hdOk t = true ∧ (hdW t).1.size ≤ 6000 ∧ (hdN t).1 = seq ∧ 1 ≤ seq ∧ seq ≤ 1000000000 := by
  simp only [good, recordRight, Bool.and_eq_true, decide_eq_true_eq] at h
  exact ⟨h.1.1, by ((try simp only [Int.ofNat_eq_natCast] at *); omega), h.2, by omega, by omega⟩
/-- Of the whole, and of its first 6400 bytes, the same is read. -/
theorem good_same (A : ByteArray) (seq : Int) : good (A.extract 0 6400) seq = good A seq ∧ (good A seq = true → hdN (A.extract 0 6400) = hdN A ∧ hdW (A.extract 0 6400) = hdW A) := by
  have hsz : (A.extract 0 6400).size = min 6400 A.size := by rw [ByteArray.size_extract]; omega
  have agl : (A.extract 0 6400).data.toList = A.data.toList.take 6400 := by rw [extList, List.drop_zero]
  have ag : Agree (A.extract 0 6400) A (min 6400 A.size) := ⟨by rw [hsz]; omega, by omega, by
    rw [agl, List.take_take, Nat.min_eq_left (by omega)]⟩
  have ag' : Agree A (A.extract 0 6400) (min 6400 A.size) := ⟨ag.b, ag.a, ag.t.symm⟩
  cases hA : good A seq with
  | true =>
    obtain ⟨h1, h2, h3, _⟩ := good_text hA
    have h4 := ext_size6000 h1 h2
    have h5 : (hdW A).2.1 + 4 ≤ Int.ofNat A.size := by
      simp only [hdOk, Bool.and_eq_true, decide_eq_true_eq] at h1; exact h1.1.2
    obtain ⟨e1, e2, e3⟩ := hdOk_agree ag' h1 (by ((try simp only [Int.ofNat_eq_natCast] at *); omega))
    refine ⟨?_, fun _ => ⟨e2, e3⟩⟩
    rw [good, e1, e2, e3]
    rw [good, h1] at hA
    exact hA
  | false =>
    refine ⟨?_, fun h => by cases h⟩
    cases hP : good (A.extract 0 6400) seq with
    | false => rfl
    | true =>
      obtain ⟨h1, h2, h3, _⟩ := good_text hP
      have h5 : (hdW (A.extract 0 6400)).2.1 + 4 ≤ Int.ofNat (A.extract 0 6400).size := by
        have h1 := h1
        simp only [hdOk, Bool.and_eq_true, decide_eq_true_eq] at h1; exact h1.1.2
      rw [hsz] at h5
      obtain ⟨e1, e2, e3⟩ := hdOk_agree ag h1 h5
      have : good A seq = true := by
        rw [good, e1, e2, e3]
        rw [good, h1] at hP
        exact hP
      rw [hA] at this; cases this
theorem catL_take {L : List ByteArray} (h : ∀ u ∈ L, u.size = 64) : ∀ k, catL (L.take k) = (catL L).take (64 * k) := by
  induction L with
  | nil => intro k; simp [catL]
  | cons x r ih =>
    intro k
    have hx : x.data.toList.length = 64 := h x (.head _)
    cases k with
    | zero => simp [catL]
    | succ k =>
      rw [List.take_succ_cons, catL_cons, catL_cons, ih (fun u hu => h u (.tail _ hu)), List.take_append, List.take_of_length_le (l := x.data.toList) (by omega), hx, show 64 * (k + 1) - 64 = 64 * k by omega]
theorem catL_drop {L : List ByteArray} (h : ∀ u ∈ L, u.size = 64) : ∀ k, catL (L.drop k) = (catL L).drop (64 * k) := by
  induction L with
  | nil => intro k; simp [catL]
  | cons x r ih =>
    intro k
    have hx : x.data.toList.length = 64 := h x (.head _)
    cases k with
    | zero => simp
    | succ k =>
      rw [List.drop_succ_cons, catL_cons, ih (fun u hu => h u (.tail _ hu)), List.drop_append, List.drop_of_length_le (l := x.data.toList) (by omega), hx, show 64 * (k + 1) - 64 = 64 * k by omega, List.nil_append]
theorem catL_size {L : List ByteArray} (h : ∀ u ∈ L, u.size = 64) : (catL L).length = 64 * L.length := by
  induction L with
  | nil => rfl
  | cons x r ih =>
    have hx : x.data.toList.length = 64 := h x (.head _)
    rw [catL_cons, List.length_append, ih (fun u hu => h u (.tail _ hu)), hx, List.length_cons]; omega
theorem join_take {L : List ByteArray} (h : ∀ u ∈ L, u.size = 64) : joinE (L.take 100) = (joinE L).extract 0 6400 := by
  refine baExt ?_
  rw [extList, List.drop_zero]
  exact catL_take h 100
theorem join_drop {L : List ByteArray} (h : ∀ u ∈ L, u.size = 64) (k : Nat) : (joinE L).extract (64 * k) (joinE L).size = joinE (L.drop k) := by
  refine baExt ?_
  rw [extList, List.take_of_length_le (show (joinE L).data.toList.length ≤ (joinE L).size from Nat.le_refl _)]
  exact (catL_drop h k).symm
def sect (t : ByteArray) : Nat := ((hdW t).2.1 + 4 + 63).toNat / 64
/-- The records from one sector on, and the sector behind. -/
def logGo (H : List ByteArray) : Nat → Nat → Int → List Rcd × Nat
  | 0, f, _ => ([], f)
  | k + 1, f, seq => if f < H.length ∧ good (joinE (H.drop f)) seq = true then
      (⟨seq, (hdW (joinE (H.drop f))).1⟩ :: (logGo H k (f + sect (joinE (H.drop f))) (seq + 1)).1, (logGo H k (f + sect (joinE (H.drop f))) (seq + 1)).2)
    else ([], f)
theorem logGo_yes {H : List ByteArray} {k f : Nat} {seq : Int} (h : f < H.length) (hg : good (joinE (H.drop f)) seq = true) : logGo H (k + 1) f seq =
    (⟨seq, (hdW (joinE (H.drop f))).1⟩ :: (logGo H k (f + sect (joinE (H.drop f))) (seq + 1)).1, (logGo H k (f + sect (joinE (H.drop f))) (seq + 1)).2) := by rw [logGo, if_pos ⟨h, hg⟩]
theorem logGo_no {H : List ByteArray} {k f : Nat} {seq : Int} (h : ¬ (f < H.length ∧ good (joinE (H.drop f)) seq = true)) : logGo H k f seq = ([], f) := by
  cases k with
  | zero => rfl
  | succ k => rw [logGo, if_neg h]
/-- A record's sectors: some, and no more than are left. -/
theorem sect_fit {H : List ByteArray} (h64 : ∀ u ∈ H, u.size = 64) {f : Nat} {seq : Int} (h : f < H.length) (hg : good (joinE (H.drop f)) seq = true) : 1 ≤ sect (joinE (H.drop f)) ∧ f + sect (joinE (H.drop f)) ≤ H.length ∧ (hdW (joinE (H.drop f))).2.1 + 4 ≤ 6400 ∧ 0 ≤ (hdW (joinE (H.drop f))).2.1 := by
  obtain ⟨h1, h2, _⟩ := good_text hg
  have h4 := ext_size6000 h1 h2
  have hs : (joinE (H.drop f)).size = 64 * (H.length - f) := by
    have := catL_size (L := H.drop f) fun u hu => h64 u (List.mem_of_mem_drop hu)
    rw [List.length_drop] at this
    exact this
  have w0 : 0 ≤ (hdW (joinE (H.drop f))).2.1 := (wordOf_facts _ _).1
  simp only [hdOk, Bool.and_eq_true, decide_eq_true_eq] at h1
  have h5 := h1.1.2
  rw [hs] at h5
  rw [sect]
  refine ⟨?_, ?_, h4, w0⟩ <;> ((try simp only [Int.ofNat_eq_natCast] at *); omega)
theorem logGo_len {H : List ByteArray} (h64 : ∀ u ∈ H, u.size = 64) : ∀ (k f : Nat) (seq : Int), f ≤ H.length → (logGo H k f seq).1.length ≤ H.length - f ∧ (logGo H k f seq).2 ≤ H.length ∧ (∀ r ∈ (logGo H k f seq).1, r.text.size ≤ 6000)
  | 0, f, seq, hf => ⟨Nat.zero_le _, hf, fun r hr => absurd hr (by simp [logGo])⟩
  | k + 1, f, seq, hf => by
    by_cases h : f < H.length ∧ good (joinE (H.drop f)) seq = true
    · obtain ⟨s1, s2, _⟩ := sect_fit h64 h.1 h.2
      obtain ⟨i1, i2, i3⟩ := logGo_len h64 k (f + sect (joinE (H.drop f))) (seq + 1) s2
      rw [logGo_yes h.1 h.2]
      refine ⟨by rw [List.length_cons]; omega, i2, fun r hr => ?_⟩
      rcases List.mem_cons.1 hr with rfl | hr
      · exact (good_text h.2).2.1
      · exact i3 r hr
    · rw [logGo_no h]
      exact ⟨Nat.zero_le _, hf, fun r hr => absurd hr (by simp)⟩
end Go.Proofs.Ytngnflfjacappaa
