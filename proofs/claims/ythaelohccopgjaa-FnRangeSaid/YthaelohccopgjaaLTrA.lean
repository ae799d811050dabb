/- Functions of the program, each with what it returns, run by the evaluator; the conditions stand in the theorems. -/
import Derived.Test.YthaelohccopgjaaLTrF
namespace Go.Proofs.Ythaelohccopgjaa
open Go Go.Proofs.YthaelohccopgjaaW Go.Proofs
set_option linter.unusedVariables false
set_option linter.unusedSimpArgs false
/-! A right tree's keys, in order. -/
def Btw (lo hi : Option ByteArray) (l : List Pr) : Prop := Srt l ∧ ∀ q ∈ l, lowOk lo q.1 = true ∧ highOk hi q.1 = true
def SzP (l : List Pr) : Prop := ∀ q ∈ l, q.1.size ≤ 20000 ∧ q.2.size ≤ 20000
theorem btw_app {lo hi : Option ByteArray} {A B : List Pr} {x : Pr} (hA : Btw lo (some x.1) A) (hx : lowOk lo x.1 = true) (hB : Btw (some x.1) hi B) (hx' : highOk hi x.1 = true) : Btw lo hi (A ++ x :: B) := by
  have a1 : ∀ q ∈ A, ltS q.1 x.1 = true := fun q hq => (hA.2 q hq).2
  have b1 : ∀ q ∈ B, ltS x.1 q.1 = true := fun q hq => (hB.2 q hq).1
  refine ⟨srt_app.2 ⟨hA.1, srt_cons.2 ⟨b1, hB.1⟩, fun a ha b hb => ?_⟩, fun q hq => ?_⟩
  · rcases List.mem_cons.1 hb with rfl | hb
    · exact a1 a ha
    · exact ltS_trans (a1 a ha) (b1 b hb)
  · rcases List.mem_append.1 hq with hq | hq
    · refine ⟨(hA.2 q hq).1, ?_⟩
      cases hi with
      | none => rfl
      | some h => exact ltS_trans (a1 q hq) hx'
    · rcases List.mem_cons.1 hq with rfl | hq
      · exact ⟨hx, hx'⟩
      · refine ⟨?_, (hB.2 q hq).2⟩
        cases lo with
        | none => rfl
        | some l => exact ltS_trans hx (b1 q hq)
theorem btw_nil {lo hi : Option ByteArray} : Btw lo hi [] := ⟨List.Pairwise.nil, fun q h => by simp at h⟩
theorem prs_drop {t : Tr} (hv : t.vals.length = t.keys.length) {i : Nat} (hi : i < t.keys.length) : t.prs.drop i = (t.key i, t.val i) :: t.prs.drop (i + 1) := by
  have hl : i < t.prs.length := by simp only [Tr.prs, List.length_zip]; omega
  rw [List.drop_eq_getElem_cons hl]
  congr 1
  simp only [Tr.prs, List.getElem_zip, Tr.key, Tr.val]
  rw [List.getD_eq_getElem?_getD, List.getD_eq_getElem?_getD, List.getElem?_eq_getElem hi, List.getElem?_eq_getElem (by omega)]
  rfl
theorem kids_drop {t : Tr} {i : Nat} (hi : i < t.kids.length) : t.kids.drop i = t.kid i :: t.kids.drop (i + 1) := by
  rw [List.drop_eq_getElem_cons hi]
  congr 1
  simp only [Tr.kid]
  rw [List.getD_eq_getElem?_getD, List.getElem?_eq_getElem hi]; rfl
structure KeysOk (t : Tr) (lo hi : Option ByteArray) : Prop where
  lo : ∀ i, i < t.keys.length → lowOk (t.lowAt lo i) (t.key i) = true
  hi : ∀ i, i < t.keys.length → highOk hi (t.key i) = true
theorem prs_btw {t : Tr} {lo hi : Option ByteArray} (hv : t.vals.length = t.keys.length) (hk : KeysOk t lo hi) : ∀ m i, i + m = t.keys.length → Btw (t.lowAt lo i) hi (t.prs.drop i)
  | 0, i, h => by
    have : t.prs.drop i = [] := List.drop_eq_nil_of_le (by simp only [Tr.prs, List.length_zip]; omega)
    rw [this]; exact btw_nil
  | m + 1, i, h => by
    rw [prs_drop hv (by omega)]
    have ih := prs_btw hv hk m (i + 1) (by omega)
    have e : t.lowAt lo (i + 1) = some (t.key i) := by rw [Tr.lowAt, if_neg (by omega)]; rfl
    rw [e] at ih
    exact btw_app (A := []) btw_nil (hk.lo i (by omega)) ih (hk.hi i (by omega))
theorem weave_btw {t : Tr} {lo hi : Option ByteArray} {d : Nat} (hv : t.vals.length = t.keys.length) (hn : t.kids.length = t.keys.length + 1) (hk : KeysOk t lo hi)
    (hc : ∀ j, j ≤ t.keys.length → Btw (t.lowAt lo j) (t.highAt hi j) (flat d (t.kid j))) : ∀ m i, i + m = t.keys.length → Btw (t.lowAt lo i) hi (weave ((t.kids.drop i).map (flat d)) (t.prs.drop i))
  | 0, i, h => by
    have e1 : t.prs.drop i = [] := List.drop_eq_nil_of_le (by simp only [Tr.prs, List.length_zip]; omega)
    have e2 : t.kids.drop (i + 1) = [] := List.drop_eq_nil_of_le (by omega)
    rw [kids_drop (by omega), e1, e2]
    simp only [List.map_cons, List.map_nil, weave, List.append_nil]
    have := hc i (by omega)
    rwa [Tr.highAt, if_neg (by omega)] at this
  | m + 1, i, h => by
    rw [kids_drop (by omega), prs_drop hv (by omega)]
    simp only [List.map_cons, weave]
    have ih := weave_btw hv hn hk hc m (i + 1) (by omega)
    have e : t.lowAt lo (i + 1) = some (t.key i) := by rw [Tr.lowAt, if_neg (by omega)]; rfl
    rw [e] at ih
    have h1 := hc i (by omega)
    rw [Tr.highAt, if_pos (by omega)] at h1
    exact btw_app h1 (hk.lo i (by omega)) ih (hk.hi i (by omega))
theorem mem_weave {α : Type} {q : α} : ∀ {ls : List (List α)} {xs : List α}, q ∈ weave ls xs → (∃ l ∈ ls, q ∈ l) ∨ q ∈ xs
  | [], xs, h => .inr h
  | l :: ls, [], h => by
    simp only [weave, List.mem_append] at h
    rcases h with h | h
    · exact .inl ⟨l, .head _, h⟩
    · rcases mem_weave h with ⟨l', h1, h2⟩ | h
      · exact .inl ⟨l', .tail _ h1, h2⟩
      · simp at h
  | l :: ls, x :: xs, h => by
    simp only [weave, List.mem_append, List.mem_cons] at h
    rcases h with h | h | h
    · exact .inl ⟨l, .head _, h⟩
    · exact .inr (by rw [h]; exact .head _)
    · rcases mem_weave h with ⟨l', h1, h2⟩ | h
      · exact .inl ⟨l', .tail _ h1, h2⟩
      · exact .inr (.tail _ h)
theorem mem_prs {t : Tr} {q : Pr} (h : q ∈ t.prs) : ∃ i, i < t.keys.length ∧ i < t.vals.length ∧ q = (t.key i, t.val i) := by
  obtain ⟨i, hi, rfl⟩ := List.mem_iff_getElem.1 h
  have hl : i < t.keys.length ∧ i < t.vals.length := by simp only [Tr.prs, List.length_zip] at hi; omega
  refine ⟨i, hl.1, hl.2, ?_⟩
  simp only [Tr.prs, List.getElem_zip, Tr.key, Tr.val]
  rw [List.getD_eq_getElem?_getD, List.getD_eq_getElem?_getD, List.getElem?_eq_getElem hl.1, List.getElem?_eq_getElem hl.2]
  rfl
theorem okT_nd : ∀ {d : Nat} {root : Bool} {t : Tr} {lo hi : Option ByteArray}, okT d root t lo hi = true → Nd (if root = true then 0 else 1) d t ∧ Btw lo hi (flat d t) ∧ SzP (flat d t)
  | 0, _, _, _, _, h => by rw [okT] at h; cases h
  | d + 1, root, t, lo, hi, h => by
    have hkid := fun (i : Nat) (hi' : i < t.kids.length) => okT_nd (okT_kid h hi')
    obtain ⟨s1, s2, s3⟩ := okT_shape h
    rw [okT] at h
    simp only [Bool.and_eq_true, Tr.shape, Bool.or_eq_true, decide_eq_true_eq, beq_iff_eq] at h
    obtain ⟨⟨⟨⟨⟨⟨h1, hr⟩, h2⟩, h3⟩, h4⟩, h5⟩, h6⟩ := h
    have h5 := allTo_iff.1 h5
    have kk : ∀ i, i < t.keys.length → (t.key i).size ≤ 20000 ∧ (t.val i).size ≤ 20000 ∧ (i = 0 ∨ ltS (t.key (i - 1)) (t.key i) = true) ∧ lowOk lo (t.key i) = true ∧ highOk hi (t.key i) = true := fun i hi' => by
      have := h5 i hi'
      simp only [Tr.keyOk, Bool.and_eq_true, Bool.or_eq_true, decide_eq_true_eq, Bool.not_eq_true', decide_eq_false_iff_not] at this
      obtain ⟨⟨⟨⟨a, b⟩, c⟩, e⟩, f⟩ := this
      exact ⟨by omega, by omega, c, e, f⟩
    have hk : KeysOk t lo hi := ⟨fun i hi' => by
      rw [Tr.lowAt]
      split
      · rename_i e; exact (kk i hi').2.2.2.1
      · rename_i e; exact (kk i hi').2.2.1.resolve_left e, fun i hi' => (kk i hi').2.2.2.2⟩
    have hlo : (if root = true then 0 else 1) ≤ t.keys.length := by
      split
      · omega
      · rename_i e
        have := hr.resolve_left e
        omega
    have h4 : t.kids.length = 0 ↔ d = 0 := by
      rw [decide_eq_decide] at h4; exact h4
    have hz : SzP t.prs := fun q hq => by
      obtain ⟨i, a, b, rfl⟩ := mem_prs hq
      exact ⟨(kk i a).1, (kk i a).2.1⟩
    have kidmem : ∀ c ∈ t.kids, ∃ i, i < t.kids.length ∧ c = t.kid i := fun c hc => by
      obtain ⟨i, hi', rfl⟩ := List.mem_iff_getElem.1 hc
      refine ⟨i, hi', ?_⟩
      rw [Tr.kid, List.getD_eq_getElem?_getD, List.getElem?_eq_getElem hi']; rfl
    by_cases hd : d = 0
    · have hk0 : t.kids = [] := List.eq_nil_of_length_eq_zero (h4.2 hd)
      have ef : flat (d + 1) t = t.prs := by rw [flat, hk0]; rfl
      refine ⟨⟨hlo, s1, s2, .inl ⟨hk0, hd⟩⟩, ?_, by rw [ef]; exact hz⟩
      rw [ef]
      exact prs_btw s2 hk t.keys.length 0 (by omega)
    · have hkn : t.kids.length = t.keys.length + 1 := s3.resolve_left fun h => hd (h4.1 h)
      refine ⟨⟨hlo, s1, s2, .inr ⟨hkn, hd, fun c hc => ?_⟩⟩, ?_, ?_⟩
      · obtain ⟨i, hi', rfl⟩ := kidmem c hc
        exact (hkid i hi').1
      · rw [flat]
        exact weave_btw s2 hkn hk (fun j hj => (hkid j (by omega)).2.1) t.keys.length 0 (by omega)
      · intro q hq
        rw [flat] at hq
        rcases mem_weave hq with ⟨l, hl, hq⟩ | hq
        · obtain ⟨c, hc, rfl⟩ := List.mem_map.1 hl
          obtain ⟨i, hi', rfl⟩ := kidmem c hc
          exact (hkid i hi').2.2 q hq
        · exact hz q hq
theorem right_nd {t : Tr} (h : rightT t = true) : ∃ d, d = deepT 13 t ∧ 1 ≤ d ∧ d ≤ 12 ∧ Nd 0 d t ∧ Srt (flat d t) ∧ SzP (flat d t) := by
  simp only [rightT, Bool.and_eq_true, decide_eq_true_eq] at h
  obtain ⟨h1, h2, h3⟩ := okT_nd h.2
  rw [if_pos rfl] at h1
  refine ⟨_, rfl, ?_, h.1, h1, h2.1, h3⟩
  cases e : deepT 13 t with
  | zero => rw [e] at h1; exact h1.elim
  | succ d => omega
theorem weave_len {α : Type} : ∀ (ls : List (List α)) (xs : List α), (weave ls xs).length = (ls.map List.length).sum + xs.length
  | [], xs => by simp [weave]
  | l :: ls, [] => by simp [weave, weave_len ls []]
  | l :: ls, x :: xs => by simp [weave, weave_len ls xs]; omega
theorem sum_ge {α : Type} {f : α → Nat} {b : Nat} : ∀ {l : List α}, (∀ a ∈ l, b ≤ f a) → l.length * b ≤ (l.map f).sum
  | [], _ => by simp
  | a :: l, h => by
    have h1 := h a (.head _)
    have h2 := sum_ge (l := l) fun c hc => h c (.tail _ hc)
    simp only [List.length_cons, List.map_cons, List.sum_cons, Nat.add_mul]
    omega
theorem sum_le {α : Type} {f : α → Nat} {b : Nat} : ∀ {l : List α}, (∀ a ∈ l, f a ≤ b) → (l.map f).sum ≤ l.length * b
  | [], _ => by simp
  | a :: l, h => by
    have h1 := h a (.head _)
    have h2 := sum_le (l := l) fun c hc => h c (.tail _ hc)
    simp only [List.length_cons, List.map_cons, List.sum_cons, Nat.add_mul]
    omega
theorem prs_len {t : Tr} (hv : t.vals.length = t.keys.length) : t.prs.length = t.keys.length := by simp only [Tr.prs, List.length_zip]; omega
theorem flat_len {d : Nat} {t : Tr} (hv : t.vals.length = t.keys.length) : (flat (d + 1) t).length = (t.kids.map fun c => (flat d c).length).sum + t.keys.length := by
  rw [flat, weave_len, prs_len hv, List.map_map]; rfl
theorem flat_ge : ∀ {d : Nat} {t : Tr}, Nd 1 d t → 2 ^ d ≤ (flat d t).length + 1
  | 0, _, h => h.elim
  | d + 1, t, h => by
    obtain ⟨h1, h2, h3, h4⟩ := h
    rw [flat_len h3]
    rcases h4 with ⟨h5, rfl⟩ | ⟨h5, h6, h7⟩
    · rw [h5]; simp only [List.map_nil, List.sum_nil]; omega
    · have hs := sum_ge (l := t.kids) (f := fun c => (flat d c).length) (b := 2 ^ d - 1) fun c hc => by
        have := flat_ge (h7 c hc); omega
      rw [h5] at hs
      have hp : 1 ≤ 2 ^ d := Nat.one_le_two_pow
      have : 2 * (2 ^ d - 1) ≤ (t.keys.length + 1) * (2 ^ d - 1) := Nat.mul_le_mul_right _ (by omega)
      rw [Nat.pow_succ]
      omega
theorem flat_le : ∀ {lo d : Nat} {t : Tr}, Nd lo d t → (flat d t).length < 4 ^ d
  | _, 0, _, h => h.elim
  | lo, d + 1, t, h => by
    obtain ⟨h1, h2, h3, h4⟩ := h
    rw [flat_len h3]
    rcases h4 with ⟨h5, rfl⟩ | ⟨h5, h6, h7⟩
    · rw [h5]; simp only [List.map_nil, List.sum_nil]; omega
    · have hs := sum_le (l := t.kids) (f := fun c => (flat d c).length) (b := 4 ^ d - 1) fun c hc => by
        have := flat_le (h7 c hc); omega
      rw [h5] at hs
      have hp : 1 ≤ 4 ^ d := Nat.one_le_pow _ _ (by omega)
      have : (t.keys.length + 1) * (4 ^ d - 1) ≤ 4 * (4 ^ d - 1) := Nat.mul_le_mul_right _ (by omega)
      rw [Nat.pow_succ]
      omega
def sumR (g : Nat → Nat) : Nat → Nat → Nat
  | _, 0 => 0
  | i, m + 1 => g i + sumR g (i + 1) m
theorem sumR_drop {α : Type} (f : α → Nat) (def0 : α) (l : List α) : ∀ m i, i + m = l.length → ((l.drop i).map f).sum = sumR (fun i => f (l.getD i def0)) i m
  | 0, i, h => by rw [List.drop_eq_nil_of_le (by omega)]; rfl
  | m + 1, i, h => by
    rw [List.drop_eq_getElem_cons (by omega), List.map_cons, List.sum_cons, sumR, sumR_drop f def0 l m (i + 1) (by omega)]
    congr 2
    rw [List.getD_eq_getElem?_getD, List.getElem?_eq_getElem (by omega)]; rfl
theorem cntRun_is {f : Nat → Int} {g : Nat → Nat} : ∀ {m i a : Nat}, (∀ j, i ≤ j → j < i + m → f j = Int.ofNat (g j)) → a + sumR g i m < 4611686018427387904 → cntRun f i m (Int.ofNat a) = Int.ofNat (a + sumR g i m)
  | 0, i, a, _, _ => rfl
  | m + 1, i, a, h, hb => by
    rw [sumR] at hb ⊢
    have e : prims.add .i64 (Int.ofNat a) (f i) = Int.ofNat (a + g i) := by
      rw [h i (Nat.le_refl _) (by omega)]
      have : prims.add .i64 (Int.ofNat a) (Int.ofNat (g i)) = Int.ofNat a + Int.ofNat (g i) := wrap_i64 (by ((try simp only [Int.ofNat_eq_natCast] at *); omega)) (by ((try simp only [Int.ofNat_eq_natCast] at *); omega))
      rw [this]; rfl
    rw [cntRun, e, cntRun_is (fun j h1 h2 => h j (by omega) (by omega)) (by omega), Nat.add_assoc]
theorem cnt_flat : ∀ {d lo k : Nat} {t : Tr}, d ≤ 12 → Tr.Le k t → Nd lo d t → cnt k t = Int.ofNat (flat d t).length
  | 0, _, _, _, _, _, h => h.elim
  | _, _, 0, _, _, h, _ => h.elim
  | d + 1, lo, k + 1, t, hd, hl, h => by
    have hle := flat_le h
    obtain ⟨h1, h2, h3, h4⟩ := h
    rw [flat_len h3] at hle ⊢
    have hs := sumR_drop (fun c => (flat d c).length) default t.kids t.kids.length 0 (by omega)
    rw [List.drop_zero] at hs
    have h4d : 4 ^ (d + 1) ≤ 4 ^ 12 := Nat.pow_le_pow_right (by omega) hd
    have h12 : (4 : Nat) ^ 12 = 16777216 := by decide
    have hb : t.keys.length + sumR (fun i => (flat d (t.kids.getD i default)).length) 0 t.kids.length < 4611686018427387904 := by rw [← hs]; omega
    have hf : ∀ j, 0 ≤ j → j < 0 + t.kids.length → cnt k (t.kid j) = Int.ofNat (flat d (t.kids.getD j default)).length := fun j _ hj => by
      have hj' : j < t.kids.length := by omega
      rcases h4 with ⟨h5, _⟩ | ⟨_, _, h7⟩
      · rw [h5] at hj'; simp at hj'
      · have hm : t.kid j ∈ t.kids := by
          rw [Tr.kid, List.getD_eq_getElem?_getD, List.getElem?_eq_getElem hj']; exact List.getElem_mem hj'
        exact cnt_flat (by omega) (hl _ hm) (h7 _ hm)
    rw [cnt, cntRun_is (g := fun i => (flat d (t.kids.getD i default)).length) hf hb, ← hs, Nat.add_comm]
theorem in_weave {α : Type} {q : α} : ∀ {ls : List (List α)} {xs : List α}, (∃ l ∈ ls, q ∈ l) ∨ q ∈ xs → q ∈ weave ls xs
  | [], xs, h => by
    rcases h with ⟨l, h, _⟩ | h
    · simp at h
    · exact h
  | l :: ls, [], h => by
    simp only [weave, List.mem_append]
    rcases h with ⟨l', h, h'⟩ | h
    · simp only [List.mem_cons] at h
      rcases h with h | h
      · subst h; exact .inl h'
      · exact .inr (in_weave (.inl ⟨l', h, h'⟩))
    · simp at h
  | l :: ls, x :: xs, h => by
    simp only [weave, List.mem_append, List.mem_cons]
    rcases h with ⟨l', h, h'⟩ | h
    · simp only [List.mem_cons] at h
      rcases h with h | h
      · subst h; exact .inl h'
      · exact .inr (.inr (in_weave (.inl ⟨l', h, h'⟩)))
    · simp only [List.mem_cons] at h
      rcases h with h | h
      · exact .inr (.inl h)
      · exact .inr (.inr (in_weave (.inr h)))
theorem nd_bd {M : Nat} (hM : 4 ≤ M) : ∀ {lo d : Nat} {t : Tr}, Nd lo d t → (∀ q ∈ flat d t, q.1.size ≤ M ∧ q.2.size ≤ M) → Tr.Bd M t
  | _, 0, _, h, _ => h.elim
  | lo, d + 1, t, h, hf => by
    obtain ⟨h1, h2, h3, h4⟩ := h
    have hp : ∀ q ∈ t.prs, q.1.size ≤ M ∧ q.2.size ≤ M := fun q hq => hf q (by rw [flat]; exact in_weave (.inr hq))
    have hkv : ∀ (i : Nat) (hi : i < t.keys.length), (t.keys[i]'hi, t.vals[i]'(by rw [h3]; exact hi)) ∈ t.prs := fun i hi => by
      have : (t.prs)[i]'(by rw [prs_len h3]; exact hi) = (t.keys[i]'hi, t.vals[i]'(by rw [h3]; exact hi)) := by simp only [Tr.prs, List.getElem_zip]
      rw [← this]; exact List.getElem_mem _
    refine ⟨t, by omega, fun u hu => ?_, by omega, fun u hu => ?_, ?_, fun c hc => ?_⟩
    · obtain ⟨i, hi, rfl⟩ := List.mem_iff_getElem.1 hu
      exact (hp _ (hkv i hi)).1
    · obtain ⟨i, hi, rfl⟩ := List.mem_iff_getElem.1 hu
      exact (hp _ (hkv i (by rw [← h3]; exact hi))).2
    · rcases h4 with ⟨h5, _⟩ | ⟨h5, _⟩
      · rw [h5]; simp
      · omega
    · rcases h4 with ⟨h5, _⟩ | ⟨_, _, h7⟩
      · rw [h5] at hc; simp at hc
      · exact nd_bd hM (h7 c hc) fun q hq => hf q (by rw [flat]; exact in_weave (.inl ⟨_, List.mem_map_of_mem hc, hq⟩))
end Go.Proofs.Ythaelohccopgjaa
