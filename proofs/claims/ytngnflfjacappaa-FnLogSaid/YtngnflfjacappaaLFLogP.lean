/- Functions of the program, each with what it returns, run by the evaluator; the conditions stand in the theorems. -/
import Derived.Test.YtngnflfjacappaaLFDisk
import Derived.Test.YtngnflfjacappaaLLog3
import Derived.Test.YtngnflfjacappaaLApp
import Derived.Test.YtngnflfjacappaaLNumP
namespace Go.Proofs.Ytngnflfjacappaa
open Go Go.Proofs.YtngnflfjacappaaW Go.Proofs
set_option linter.unusedVariables false
set_option linter.unusedSimpArgs false
set_option maxRecDepth 100000
set_option maxHeartbeats 8000000
/-! A log whose first sectors stay, and a record behind it. -/
theorem good_agree {s s' : ByteArray} {m : Nat} {seq : Int} (ag : Agree s s' m) (h : good s seq = true) (hm : (hdW s).2.1 + 4 ≤ Int.ofNat m) : good s' seq = true ∧ hdN s' = hdN s ∧ hdW s' = hdW s := by
  obtain ⟨e1, e2, e3⟩ := hdOk_agree ag (good_text h).1 hm
  refine ⟨?_, e2, e3⟩
  rw [good, e1, e2, e3]
  rw [good, (good_text h).1] at h
  exact h
theorem join_size {L : List ByteArray} (h : ∀ u ∈ L, u.size = 64) (f : Nat) : (joinE (L.drop f)).size = 64 * (L.length - f) := by
  have := catL_size (L := L.drop f) fun u hu => h u (List.mem_of_mem_drop hu)
  rw [List.length_drop] at this
  exact this
theorem join_agree {H H' : List ByteArray} (h64 : ∀ u ∈ H, u.size = 64) (h64' : ∀ u ∈ H', u.size = 64) (hl : H'.length = H.length) {n f : Nat} (hn : n ≤ H.length) (he : ∀ i, i < n → H'[i]? = H[i]?) : Agree (joinE (H.drop f)) (joinE (H'.drop f)) (64 * (n - f)) where
  a := by rw [join_size h64]; omega
  b := by rw [join_size h64', hl]; omega
  t := by
    show (catL (H.drop f)).take _ = (catL (H'.drop f)).take _
    rw [← catL_take (fun u hu => h64 u (List.mem_of_mem_drop hu)), ← catL_take (fun u hu => h64' u (List.mem_of_mem_drop hu))]
    congr 1
    refine List.ext_getElem? fun i => ?_
    rw [List.getElem?_take, List.getElem?_take]
    split
    · rw [List.getElem?_drop, List.getElem?_drop, he _ (by omega)]
    · rfl
theorem logGo_ge {H : List ByteArray} : ∀ (k f : Nat) (seq : Int), f ≤ (logGo H k f seq).2
  | 0, f, seq => Nat.le_refl _
  | k + 1, f, seq => by
    rw [logGo]
    split
    · exact Nat.le_trans (Nat.le_add_right _ _) (logGo_ge k _ _)
    · exact Nat.le_refl _
theorem logGo_keep {H H' : List ByteArray} (h64 : ∀ u ∈ H, u.size = 64) (h64' : ∀ u ∈ H', u.size = 64) (hl : H'.length = H.length) {n : Nat} (hn : n ≤ H.length) (he : ∀ i, i < n → H'[i]? = H[i]?) :
    ∀ (k f : Nat) (seq : Int) (k' : Nat), (logGo H k f seq).2 ≤ n → (logGo H k f seq).1.length ≤ k' →
      (logGo H' k' f seq).1 = (logGo H k f seq).1 ++ (logGo H' (k' - (logGo H k f seq).1.length) (logGo H k f seq).2 (seq + Int.ofNat (logGo H k f seq).1.length)).1 := by
  intro k
  induction k with
  | zero =>
    intro f seq k' h1 h2
    show (logGo H' k' f seq).1 = [] ++ (logGo H' (k' - 0) f (seq + Int.ofNat 0)).1
    rw [List.nil_append, Nat.sub_zero, show seq + Int.ofNat 0 = seq by ((try simp only [Int.ofNat_eq_natCast] at *); omega)]
  | succ k ih =>
    intro f seq k' h1 h2
    by_cases h : f < H.length ∧ good (joinE (H.drop f)) seq = true
    · rw [logGo_yes h.1 h.2] at h1 h2 ⊢
      dsimp only at h1 h2 ⊢
      rw [List.length_cons] at h2 ⊢
      obtain ⟨s1, s2, s3, s4⟩ := sect_fit h64 h.1 h.2
      have hge := logGo_ge (H := H) k (f + sect (joinE (H.drop f))) (seq + 1)
      have hs : (hdW (joinE (H.drop f))).2.1 + 4 ≤ Int.ofNat (64 * (n - f)) := by
        have hsd : sect (joinE (H.drop f)) = ((hdW (joinE (H.drop f))).2.1 + 4 + 63).toNat / 64 := rfl
        ((try simp only [Int.ofNat_eq_natCast] at *); omega)
      obtain ⟨g1, g2, g3⟩ := good_agree (join_agree h64 h64' hl hn he) h.2 hs
      obtain ⟨k', rfl⟩ : ∃ j, k' = j + 1 := ⟨k' - 1, by omega⟩
      have hsec : sect (joinE (H'.drop f)) = sect (joinE (H.drop f)) := by rw [sect, sect, g3]
      have ih := ih (f + sect (joinE (H.drop f))) (seq + 1) k' h1 (by omega)
      rw [logGo_yes (by rw [hl]; exact h.1) g1, hsec, g3]
      dsimp only
      rw [ih, List.cons_append]
      congr 3
      rw [Nat.add_sub_add_right, show seq + 1 + Int.ofNat (logGo H k (f + sect (joinE (H.drop f))) (seq + 1)).1.length = seq + Int.ofNat ((logGo H k (f + sect (joinE (H.drop f))) (seq + 1)).1.length + 1) by ((try simp only [Int.ofNat_eq_natCast] at *); omega)]
    · rw [logGo_no h] at h1 h2 ⊢
      show (logGo H' k' f seq).1 = [] ++ (logGo H' (k' - 0) f (seq + Int.ofNat 0)).1
      rw [List.nil_append, Nat.sub_zero, show seq + Int.ofNat 0 = seq by ((try simp only [Int.ofNat_eq_natCast] at *); omega)]
theorem logGo_seq {H : List ByteArray} : ∀ (k f : Nat) (seq : Int) (i : Nat) (h : i < (logGo H k f seq).1.length), ((logGo H k f seq).1[i]'h).seq = seq + Int.ofNat i
  | 0, f, seq, i, h => absurd h (by simp [logGo])
  | k + 1, f, seq, i, h => by
    by_cases hh : f < H.length ∧ good (joinE (H.drop f)) seq = true
    · have e := logGo_yes (k := k) hh.1 hh.2
      have e1 : (logGo H (k + 1) f seq).1 = _ := congrArg Prod.fst e
      dsimp only at e1
      cases i with
      | zero =>
        have : (logGo H (k + 1) f seq).1[0]? = some ⟨seq, (hdW (joinE (H.drop f))).1⟩ := by rw [e1]; rfl
        rw [List.getElem?_eq_getElem h] at this
        rw [Option.some.inj this]
        show seq = _
        ((try simp only [Int.ofNat_eq_natCast] at *); omega)
      | succ i =>
        have hl : i < (logGo H k (f + sect (joinE (H.drop f))) (seq + 1)).1.length := by rw [e1, List.length_cons] at h; omega
        have : (logGo H (k + 1) f seq).1[i + 1]? = some ((logGo H k (f + sect (joinE (H.drop f))) (seq + 1)).1[i]) := by rw [e1, List.getElem?_cons_succ, List.getElem?_eq_getElem hl]
        rw [List.getElem?_eq_getElem h] at this
        rw [Option.some.inj this, logGo_seq k _ _ i hl]
        ((try simp only [Int.ofNat_eq_natCast] at *); omega)
    · rw [logGo_no hh] at h; exact absurd h (by simp)
/-- A record's own bytes. -/
theorem record_good {n : Int} {s : ByteArray} (h : recordRight n s = true) : good (recordBytes n s) n = true ∧ (hdW (recordBytes n s)).1 = s ∧ (hdW (recordBytes n s)).2.1 + 4 = Int.ofNat (recordBytes n s).size := by
  obtain ⟨hi, hz, hp⟩ := recordRight_is h
  have hss : s.size ≤ 6000 := by simp only [recordRight, Bool.and_eq_true, decide_eq_true_eq] at h; omega
  obtain ⟨A, hA⟩ : ∃ A, A = recordBytes n s := ⟨_, rfl⟩
  have hA' := hA
  rw [recordBytes, ite_t h] at hA'
  have hut : putText s = putNum (Int.ofNat s.size) ++ s := by rw [putText, ite_f (show tooLong s = false from decide_eq_false (by omega))]; rfl
  have his : I64 (Int.ofNat s.size) := ⟨by ((try simp only [Int.ofNat_eq_natCast] at *); omega), by ((try simp only [Int.ofNat_eq_natCast] at *); omega)⟩
  have cl : ∀ a b : ByteArray, (a ++ b).data.toList = a.data.toList ++ b.data.toList := fun a b => by simp
  obtain ⟨q, hq⟩ : ∃ q, q = four (crcBare (recordText n s)) := ⟨_, rfl⟩
  have hq4 : q.data.toList.length = 4 := by rw [hq]; rfl
  have hT : (recordText n s).data.toList = [76] ++ (putNum n).data.toList ++ ((putNum (Int.ofNat s.size)).data.toList ++ s.data.toList) := by
    rw [recordText, cl, cl, hut, cl]
  have hL : A.data.toList = [76] ++ (putNum n).data.toList ++ ((putNum (Int.ofNat s.size)).data.toList ++ s.data.toList) ++ q.data.toList := by
    rw [hA', cl, hT, hq]
  have l1 : ((putNum n).data.toList).length = (putNum n).size := rfl
  have l2 : ((putNum (Int.ofNat s.size)).data.toList).length = (putNum (Int.ofNat s.size)).size := rfl
  have l3 : s.data.toList.length = s.size := rfl
  have hsz : A.size = 1 + (putNum n).size + ((putNum (Int.ofNat s.size)).size + s.size) + 4 := by
    have : A.data.toList.length = _ := congrArg List.length hL
    simp only [List.length_append, List.length_cons, List.length_nil, l1, l2, l3, hq4] at this
    have h2 : A.data.toList.length = A.size := rfl
    omega
  have h76 : hd1 A = true := by
    rw [hd1, decide_eq_true (show 0 < A.size by omega), Bool.true_and, show (0 : Int) = Int.ofNat 0 from rfl, satNat, hL]
    rfl
  have hN : hdN A = (n, Int.ofNat (1 + (putNum n).size), 0) := by
    rw [hdN, show (1 : Int) = Int.ofNat 1 from rfl]
    exact numOf_put _ 1 n hi [76] (((putNum (Int.ofNat s.size)).data.toList ++ s.data.toList) ++ q.data.toList) (by rw [hL]; simp [List.append_assoc]; rfl) rfl
  have hN2 : numOf A (Int.ofNat (1 + (putNum n).size)) = (Int.ofNat s.size, Int.ofNat (1 + (putNum n).size + (putNum (Int.ofNat s.size)).size), 0) :=
    numOf_put _ _ _ his ([76] ++ (putNum n).data.toList) (s.data.toList ++ q.data.toList) (by rw [hL]; simp [List.append_assoc]; rfl) (by rw [List.length_append, l1]; rfl)
  have hW : hdW A = (s, Int.ofNat (1 + (putNum n).size + (putNum (Int.ofNat s.size)).size) + Int.ofNat s.size, 0) := by
    rw [hdW, hN]
    dsimp only
    rw [wordOf, hN2]
    dsimp only
    rw [if_neg (by simp), if_neg (by ((try simp only [Int.ofNat_eq_natCast] at *); omega)), if_neg (by rw [hsz]; ((try simp only [Int.ofNat_eq_natCast] at *); omega))]
    refine Prod.ext ?_ rfl
    refine baExt ?_
    show (A.extract _ _).data.toList = _
    rw [extList]
    have e1 : (Int.ofNat (1 + (putNum n).size + (putNum (Int.ofNat s.size)).size) + Int.ofNat s.size).toNat = 1 + (putNum n).size + (putNum (Int.ofNat s.size)).size + s.size := rfl
    have e2 : (Int.ofNat (1 + (putNum n).size + (putNum (Int.ofNat s.size)).size)).toNat = 1 + (putNum n).size + (putNum (Int.ofNat s.size)).size := rfl
    rw [e1, e2, hL, show [76] ++ (putNum n).data.toList ++ ((putNum (Int.ofNat s.size)).data.toList ++ s.data.toList) = ([76] ++ (putNum n).data.toList ++ (putNum (Int.ofNat s.size)).data.toList) ++ s.data.toList by simp [List.append_assoc]]
    have l4 : ([76] ++ (putNum n).data.toList ++ (putNum (Int.ofNat s.size)).data.toList).length = 1 + (putNum n).size + (putNum (Int.ofNat s.size)).size := by rw [List.length_append, List.length_append, l1, l2]; rfl
    rw [List.take_left' (by rw [List.length_append, l4, l3]), ← l4, List.drop_left]
  have hx : A.extract 0 (1 + (putNum n).size + (putNum (Int.ofNat s.size)).size + s.size) = recordText n s := by
    refine baExt ?_
    rw [extList, List.drop_zero, hL, hT, List.take_left']
    simp only [List.length_append, List.length_cons, List.length_nil, l1, l2, l3]; omega
  have hS : hdSum A (1 + (putNum n).size + (putNum (Int.ofNat s.size)).size + s.size) = true := by
    rw [hdSum, hx]
    refine decide_eq_true ?_
    rw [show A.extract 0 (1 + (putNum n).size + (putNum (Int.ofNat s.size)).size + s.size + 4) = A from baExt (by rw [extList, List.drop_zero, List.take_of_length_le]; show A.size ≤ _; omega)]
    exact hA'.symm
  rw [← hA]
  have hok : hdOk A = true := by
    rw [hdOk, h76, hN, hW]
    have e1 : (Int.ofNat (1 + (putNum n).size + (putNum (Int.ofNat s.size)).size) + Int.ofNat s.size).toNat = 1 + (putNum n).size + (putNum (Int.ofNat s.size)).size + s.size := rfl
    dsimp only
    rw [e1, hS, decide_eq_true (show Int.ofNat (1 + (putNum n).size + (putNum (Int.ofNat s.size)).size) + Int.ofNat s.size + 4 ≤ Int.ofNat A.size by rw [hsz]; ((try simp only [Int.ofNat_eq_natCast] at *); omega))]
    rfl
  refine ⟨?_, by rw [hW], by rw [hW, hsz]; ((try simp only [Int.ofNat_eq_natCast] at *); omega)⟩
  rw [good, hok, hN, hW]
  dsimp only
  rw [h, decide_eq_true rfl]; rfl
theorem record_pos {n : Int} {s : ByteArray} (h : recordRight n s = true) : 1 ≤ (recordBytes n s).size := by
  rw [recordBytes, ite_t h, ByteArray.size_append]
  have : (four (crcBare (recordText n s))).size = 4 := rfl
  omega
/-- A list of sectors that holds a record's pieces from a sector on. -/
theorem pieces_good {H : List ByteArray} (h64 : ∀ u ∈ H, u.size = 64) {n : Int} {s : ByteArray} (hr : recordRight n s = true) {f : Nat} (hl : f + manyOf (recordBytes n s) ≤ H.length)
    (hp : ∀ k, k < manyOf (recordBytes n s) → H[f + k]? = some (piece (recordBytes n s) k)) : good (joinE (H.drop f)) n = true ∧ (hdW (joinE (H.drop f))).1 = s := by
  obtain ⟨g1, g2, g3⟩ := record_good hr
  obtain ⟨B, hB⟩ : ∃ B, B = recordBytes n s := ⟨_, rfl⟩
  rw [← hB] at g1 g2 g3 hl hp
  have hm : B.size ≤ 64 * manyOf B := by rw [manyOf]; omega
  have ag : Agree B (joinE (H.drop f)) B.size := by
    refine ⟨Nat.le_refl _, by rw [join_size h64]; omega, ?_⟩
    have e1 : (H.drop f).take (manyOf B) = piecesL B (manyOf B) := by
      refine List.ext_getElem? fun k => ?_
      rw [List.getElem?_take]
      by_cases hk : k < manyOf B
      · rw [if_pos hk, List.getElem?_drop, hp k hk]
        simp [piecesL, hk]
      · rw [if_neg hk]
        simp [piecesL, hk]
    have e2 : (catL (H.drop f)).take (64 * manyOf B) = catL (piecesL B (manyOf B)) := by
      rw [← catL_take (fun u hu => h64 u (List.mem_of_mem_drop hu)), e1]
    have e3 : ((catL (H.drop f)).take (64 * manyOf B)).take B.size = (catL (H.drop f)).take B.size := by rw [List.take_take, Nat.min_eq_left hm]
    have hbl : B.data.toList.length = B.size := rfl
    show _ = (catL (H.drop f)).take B.size
    rw [← e3, e2, joinE_pieces, List.take_of_length_le (i := 64 * manyOf B) (by omega), List.take_left' hbl, List.take_of_length_le (by omega)]
  obtain ⟨e1, e2, e3⟩ := good_agree ag g1 (by rw [g3]; exact Int.le_refl _)
  exact ⟨e1, by rw [e3, g2]⟩
/-! What the law asks. -/
structure LogLaw (d : Dsk) (a seq : Int) (u : ByteArray) : Prop where
  code : lrCode d a seq = 0
  room : apCode (flush d) (lrNext d a seq) (seq + Int.ofNat (lrList d a seq).length) u = 0
  bytes : recordBytes (seq + Int.ofNat (lrList d a seq).length) u ≠ ⟨⟨[]⟩⟩
abbrev LogLaw.r (d : Dsk) (a seq : Int) (u : ByteArray) : Rcd := ⟨seq + Int.ofNat (lrList d a seq).length, u⟩
abbrev LogLaw.x (d : Dsk) (a seq : Int) (u : ByteArray) : Dsk := apDisk (flush d) (lrNext d a seq) (seq + Int.ofNat (lrList d a seq).length) u
theorem lrOk_of {d : Dsk} {a seq : Int} (h : lrCode d a seq = 0) : lrOk d a seq = true := by
  rw [lrCode] at h
  cases ho : lrOk d a seq with
  | true => rfl
  | false => rw [ho] at h; cases h
theorem lr_parts {d : Dsk} {a seq : Int} (h : lrOk d a seq = true) : diskRight d = true ∧ ∃ A : Nat, a = Int.ofNat A ∧ A < d.secs.length ∧ 1 ≤ seq ∧ seq ≤ 1000000000 := by
  simp only [lrOk, Bool.and_eq_true, decide_eq_true_eq] at h
  exact ⟨h.1.1, a.toNat, (Int.toNat_of_nonneg h.1.2.1).symm, by have := h.1.2.2; have := h.1.2.1; ((try simp only [Int.ofNat_eq_natCast] at *); omega), h.2.1, h.2.2⟩
theorem lr_seq {d : Dsk} {a seq : Int} {i : Nat} (h : i < (lrList d a seq).length) : ((lrList d a seq)[i]'h).seq = seq + Int.ofNat i := by
  have hl : lrList d a seq = (logGo (hasD d) 701 a.toNat seq).1 := by
    rw [lrList]
    cases ho : lrOk d a seq with
    | true => rfl
    | false => rw [lrList, ho] at h; exact absurd h (by simp)
  have h' : i < (logGo (hasD d) 701 a.toNat seq).1.length := by rw [← hl]; exact h
  have := logGo_seq 701 a.toNat seq i h'
  have e : (lrList d a seq)[i]? = (logGo (hasD d) 701 a.toNat seq).1[i]? := by rw [hl]
  rw [List.getElem?_eq_getElem h, List.getElem?_eq_getElem h'] at e
  rw [Option.some.inj e]; exact this
theorem law_keep {d : Dsk} {a seq : Int} {u : ByteArray} (w : LogLaw d a seq u) : diskRight (flush d) = true ∧ ∃ N : Nat, lrNext d a seq = Int.ofNat N ∧ Wrote (flush d) (recordBytes (seq + Int.ofNat (lrList d a seq).length) u) N (LogLaw.x d a seq u) ∧ recordRight (seq + Int.ofNat (lrList d a seq).length) u = true := by
  have ho := lrOk_of w.code
  obtain ⟨hd, A, hA, hAl, hs1, hs2⟩ := lr_parts ho
  have hf : diskRight (flush d) = true := by rw [flush_is hd]; exact flushedRight hd
  have hr : recordRight (seq + Int.ofNat (lrList d a seq).length) u = true := by
    cases hh : recordRight (seq + Int.ofNat (lrList d a seq).length) u with
    | true => rfl
    | false =>
      refine absurd ?_ w.bytes
      rw [recordBytes, ite_f hh]
  have hc := w.room
  rw [apCode, ite_t hr] at hc
  obtain ⟨N, hN, hw⟩ := wrote_of hc
  refine ⟨hf, N, hN, ?_, hr⟩
  have : LogLaw.x d a seq u = dwDisk (flush d) (lrNext d a seq) (recordBytes (seq + Int.ofNat (lrList d a seq).length) u) := by rw [LogLaw.x, apDisk, ite_t hr]
  rw [this]; exact hw
theorem law_read {d : Dsk} {a seq : Int} {u : ByteArray} (w : LogLaw d a seq u) : ∃ t, lrList (LogLaw.x d a seq u) a seq = lrList d a seq ++ LogLaw.r d a seq u :: t := by
  have ho := lrOk_of w.code
  obtain ⟨hd, A, hA, hAl, hs1, hs2⟩ := lr_parts ho
  obtain ⟨hf, N, hN, hw, hr⟩ := law_keep w
  have hx := hw.ok
  have eN : (logGo (hasD d) 701 A seq).2 = N := by
    have : lrNext d a seq = Int.ofNat (logGo (hasD d) 701 a.toNat seq).2 := by rw [lrNext, ite_t ho]
    rw [this, hA] at hN
    exact Int.ofNat.inj hN
  have eL : lrList d a seq = (logGo (hasD d) 701 A seq).1 := by rw [lrList, ite_t ho, hA]; rfl
  have hfs : (flush d).secs.length = d.secs.length := by rw [flush_is hd]; exact hasD_len d
  have hxs : (LogLaw.x d a seq u).secs.length = d.secs.length := by rw [hw.secs, hfs]
  have hox : lrOk (LogLaw.x d a seq u) a seq = true := by
    rw [lrOk, hx, hxs]
    rw [lrOk, hd] at ho
    exact ho
  have h1 := hasD_64 hd
  have h2 := hasD_64 hx
  have hlen : (hasD (LogLaw.x d a seq u)).length = (hasD d).length := by rw [hasD_len, hasD_len, hxs]
  have hhf : hasD (flush d) = hasD d := by rw [flush_is hd]; rfl
  have hnl : N ≤ (hasD d).length := by rw [← eN]; exact (logGo_len h1 701 A seq (by rw [hasD_len]; omega)).2.1
  have hcount := (logGo_len h1 701 A seq (by rw [hasD_len]; omega)).1
  have hdl := (diskRight_lens hd).1
  have hle : (hasD d).length = d.secs.length := hasD_len d
  have kp := logGo_keep h1 h2 hlen hnl (fun i hi => by rw [hw.hasAll, if_neg (by omega), hhf]) 701 A seq 701 (by rw [eN]; exact Nat.le_refl _) (by omega)
  have hlies := hw.lies
  have hp := record_pos hr
  have hm1 : 1 ≤ manyOf (recordBytes (seq + Int.ofNat (lrList d a seq).length) u) := by rw [manyOf]; omega
  obtain ⟨p1, p2⟩ := pieces_good h2 hr (f := N) (by rw [hlen, hle, ← hfs]; exact hlies) (fun k hk => by rw [hw.hasAll, if_pos ⟨by omega, by omega⟩, Nat.add_sub_cancel_left])
  rw [eN, ← eL] at kp
  obtain ⟨k', hk'⟩ : ∃ k', 701 - (lrList d a seq).length = k' + 1 := ⟨700 - (lrList d a seq).length, by rw [← eL] at hcount; omega⟩
  rw [hk', logGo_yes (by rw [hlen, hle, ← hfs]; omega) p1, p2] at kp
  have ea : a.toNat = A := by rw [hA]; rfl
  have e9 : lrList (LogLaw.x d a seq u) a seq = (logGo (hasD (LogLaw.x d a seq u)) 701 A seq).1 := by rw [lrList, ite_t hox, ea]
  exact ⟨_, e9.trans kp⟩
theorem law_crash {d : Dsk} {a seq : Int} {u : ByteArray} (w : LogLaw d a seq u) (keep : List Bool) (hk : keep.length ≤ 400) : (lrList d a seq).length ≤ (lrList (crash (LogLaw.x d a seq u) keep) a seq).length := by
  have ho := lrOk_of w.code
  obtain ⟨hd, A, hA, hAl, hs1, hs2⟩ := lr_parts ho
  obtain ⟨hf, N, hN, hw, hr⟩ := law_keep w
  have hx := hw.ok
  have eN : (logGo (hasD d) 701 A seq).2 = N := by
    have : lrNext d a seq = Int.ofNat (logGo (hasD d) 701 a.toNat seq).2 := by rw [lrNext, ite_t ho]
    rw [this, hA] at hN
    exact Int.ofNat.inj hN
  have eL : lrList d a seq = (logGo (hasD d) 701 A seq).1 := by rw [lrList, ite_t ho, hA]; rfl
  have hfs : (flush d).secs.length = d.secs.length := by rw [flush_is hd]; exact hasD_len d
  have hxs : (LogLaw.x d a seq u).secs.length = d.secs.length := by rw [hw.secs, hfs]
  obtain ⟨X, hX⟩ : ∃ X, X = LogLaw.x d a seq u := ⟨_, rfl⟩
  rw [← hX] at hx hxs hw ⊢
  have hc := crash_t (d := X) (keep := keep) (by omega) hx
  obtain ⟨S, hS⟩ : ∃ S, S = putsTo X (keepAt false keep) X.cache.length := ⟨_, rfl⟩
  rw [← hS] at hc
  rw [hc]
  have hSl : S.length = d.secs.length := by rw [hS, putsTo_len, hxs]
  have hS64 : ∀ v ∈ S, v.size = 64 := by rw [hS]; exact putsTo_64 hx _ _ (Nat.le_refl _)
  have hdl := (diskRight_lens hd).1
  have hcr : diskRight ⟨S, []⟩ = true := rightOf (by show S.length ≤ 700; omega) (by show 0 ≤ 400; omega) (fun i hi => by
    have hi : i < S.length := hi
    show (S.getD i noB).size = 64
    rw [getD_at hi]; exact hS64 _ (List.getElem_mem hi)) (fun i hi => absurd hi (by show ¬ i < 0; omega))
  have h1 := hasD_64 hd
  have hle : (hasD d).length = d.secs.length := hasD_len d
  have hnl : N ≤ (hasD d).length := by rw [← eN]; exact (logGo_len h1 701 A seq (by rw [hasD_len]; omega)).2.1
  have hcount := (logGo_len h1 701 A seq (by rw [hasD_len]; omega)).1
  have hhs : (flush d).secs = hasD d := by rw [flush_is hd]
  have hfc : (flush d).cache = [] := by rw [flush_is hd]
  have hxc : X.cache = wrsL (recordBytes (seq + Int.ofNat (lrList d a seq).length) u) (Int.ofNat N) (manyOf (recordBytes (seq + Int.ofNat (lrList d a seq).length) u)) := by rw [hw.cache, hfc, List.nil_append]
  have keepS : ∀ n, n ≤ X.cache.length → ∀ i, i < N → (putsTo X (keepAt false keep) n)[i]? = (hasD d)[i]? := by
    intro n
    induction n with
    | zero => intro _ i hi; rw [← hhs, ← hw.secs]; rfl
    | succ n ih =>
      intro hn i hi
      cases hkp : keepAt false keep n with
      | false => rw [putsTo_f hkp]; exact ih (by omega) i hi
      | true =>
        have hn' : n < manyOf (recordBytes (seq + Int.ofNat (lrList d a seq).length) u) := by rw [hxc, wrsL_len] at hn; omega
        rw [putsTo_t hkp, hxc, wrsL_at _ _ hn', ← ih (by omega) i hi, List.getElem?_set_ne (by show (Int.ofNat N + Int.ofNat n).toNat ≠ i; ((try simp only [Int.ofNat_eq_natCast] at *); omega))]
  have he : ∀ i, i < N → S[i]? = (hasD d)[i]? := by rw [hS]; exact keepS _ (Nat.le_refl _)
  have kp := logGo_keep h1 hS64 (by rw [hSl, hle]) hnl he 701 A seq 701 (by rw [eN]; exact Nat.le_refl _) (by omega)
  have hoc : lrOk ⟨S, []⟩ a seq = true := by
    rw [lrOk, hcr]
    rw [lrOk, hd] at ho
    show (true && (decide (0 ≤ a) && decide (a < Int.ofNat S.length)) && _) = true
    rw [hSl]; exact ho
  have e2 : lrList ⟨S, []⟩ a seq = (logGo S 701 A seq).1 := by rw [lrList, ite_t hoc, hA]; rfl
  rw [e2, kp, List.length_append, ← eL]
  exact Nat.le_add_right _ _
end Go.Proofs.Ytngnflfjacappaa
