/- Functions of the program, each with what it returns, run by the evaluator; the conditions stand in the theorems. -/
import Derived.Test.YthaelohccopgjaaLTrA
import Derived.Test.YthaelohccopgjaaLTrW
namespace Go.Proofs.Ythaelohccopgjaa
open Go Go.Proofs.YthaelohccopgjaaW Go.Proofs
set_option linter.unusedVariables false
set_option linter.unusedSimpArgs false
set_option maxRecDepth 100000
set_option maxHeartbeats 8000000
/-! The keys between two ones. -/
def inR (low high k : ByteArray) : Bool := !ltS k low && !ltS high k
def rngL (low high : ByteArray) (l : List Pr) : List ByteArray := (l.filter fun q => inR low high q.1).map Prod.fst
def rng (d : Nat) (t : Tr) (low high : ByteArray) : List ByteArray := rngL low high (flat d t)
theorem rngL_app {low high : ByteArray} (A B : List Pr) : rngL low high (A ++ B) = rngL low high A ++ rngL low high B := by simp [rngL]
def subR (d : Nat) (t : Tr) (low high : ByteArray) (i : Nat) : List ByteArray := if t.kids.length = 0 then [] else rng d (t.kid i) low high
def oneR (t : Tr) (low high : ByteArray) (i : Nat) : List ByteArray := if i < t.keys.length ∧ inR low high (t.key i) = true then [t.key i] else []
def accR (d : Nat) (t : Tr) (low high : ByteArray) : Nat → List ByteArray
  | 0 => []
  | i + 1 => accR d t low high i ++ subR d t low high i ++ oneR t low high i
theorem accR_suf {lo d : Nat} {t : Tr} {low high : ByteArray} (h : Nd lo (d + 1) t) : ∀ i, i ≤ t.keys.length → rng (d + 1) t low high = accR d t low high i ++ rngL low high (weave ((t.kids.drop i).map (flat d)) (t.prs.drop i))
  | 0, _ => by rw [rng, flat, accR]; rfl
  | i + 1, hi => by
    obtain ⟨h1, h2, h3, h4⟩ := h
    rw [accR_suf ⟨h1, h2, h3, h4⟩ i (by omega), accR, prs_drop h3 (by omega)]
    have e1 : oneR t low high i = rngL low high [(t.key i, t.val i)] := by
      simp only [oneR, rngL, List.filter_cons, List.filter_nil]
      by_cases hh : inR low high (t.key i) = true
      · rw [if_pos ⟨by omega, hh⟩, if_pos hh]; rfl
      · rw [if_neg (fun h => hh h.2), if_neg hh]; rfl
    rcases h4 with ⟨h5, h6⟩ | ⟨h5, h6, h7⟩
    · have hd0 : ∀ j, t.kids.drop j = [] := fun j => by rw [h5]; simp
      rw [hd0, hd0, subR, if_pos (by rw [h5]; rfl), e1, List.append_nil]
      simp only [List.map_nil, weave]
      rw [show (t.key i, t.val i) :: t.prs.drop (i + 1) = [(t.key i, t.val i)] ++ t.prs.drop (i + 1) from rfl, rngL_app, List.append_assoc]
    · rw [kids_drop (by omega), subR, if_neg (by omega), e1]
      simp only [List.map_cons, weave]
      rw [show (t.key i, t.val i) :: weave ((t.kids.drop (i + 1)).map (flat d)) (t.prs.drop (i + 1)) = [(t.key i, t.val i)] ++ weave ((t.kids.drop (i + 1)).map (flat d)) (t.prs.drop (i + 1)) from rfl, rngL_app, rngL_app]
      simp only [rng, List.append_assoc]
theorem accR_end {lo d : Nat} {t : Tr} {low high : ByteArray} (h : Nd lo (d + 1) t) : accR d t low high (t.keys.length + 1) = rng (d + 1) t low high := by
  rw [accR_suf h t.keys.length (Nat.le_refl _), accR]
  obtain ⟨h1, h2, h3, h4⟩ := h
  have e0 : t.prs.drop t.keys.length = [] := List.drop_eq_nil_of_le (by rw [prs_len h3]; exact Nat.le_refl _)
  have e1 : oneR t low high t.keys.length = [] := by rw [oneR, if_neg (fun h => by omega)]
  rw [e0, e1, List.append_nil]
  rcases h4 with ⟨h5, h6⟩ | ⟨h5, h6, h7⟩
  · rw [h5, subR, if_pos (by rw [h5]; rfl), List.drop_nil]; rfl
  · rw [kids_drop (by omega), List.drop_eq_nil_of_le (by omega : t.kids.length ≤ t.keys.length + 1), subR, if_neg (by omega)]
    simp only [List.map_cons, List.map_nil, weave, List.append_nil]
    rfl
theorem rng_len {d : Nat} {t : Tr} {low high : ByteArray} : (rng d t low high).length ≤ (flat d t).length := by
  simp only [rng, rngL, List.length_map]; exact List.length_filter_le _ _
theorem accR_len {lo d : Nat} {t : Tr} {low high : ByteArray} (h : Nd lo (d + 1) t) {i : Nat} (hi : i ≤ t.keys.length + 1) : (accR d t low high i).length ≤ (rng (d + 1) t low high).length := by
  by_cases e : i = t.keys.length + 1
  · rw [e, accR_end h]; exact Nat.le_refl _
  · rw [accR_suf h i (by omega), List.length_append]; omega
theorem Nd.lens' {lo d : Nat} {t : Tr} (h : Nd lo (d + 1) t) : lo ≤ t.keys.length ∧ t.keys.length ≤ 3 ∧ t.vals.length = t.keys.length ∧ (t.kids.length = 0 ∨ t.kids.length = t.keys.length + 1) := ⟨h.1, h.2.1, h.2.2.1, h.2.2.2.elim (fun h => .inl (by rw [h.1]; rfl)) fun h => .inr h.1⟩
theorem nd_kid {lo d : Nat} {t : Tr} (h : Nd lo (d + 1) t) (hk : t.kids.length ≠ 0) {i : Nat} (hi : i ≤ t.keys.length) : i < t.kids.length ∧ Nd 1 d (t.kid i) := by
  obtain ⟨h1, h2, h3, h4⟩ := h
  rcases h4 with ⟨h5, h6⟩ | ⟨h5, h6, h7⟩
  · rw [h5] at hk; exact absurd rfl hk
  · have hl : i < t.kids.length := by omega
    refine ⟨hl, h7 _ ?_⟩
    rw [Tr.kid, List.getD_eq_getElem?_getD, List.getElem?_eq_getElem hl]; exact List.getElem_mem hl
theorem sKeys_of (d lo : Nat) (t : Tr) (l : List ByteArray) (low high : ByteArray) (h : Nd lo (d + 1) t) (hd : d ≤ 12) (hl : l.length + (rng (d + 1) t low high).length ≤ 2147483648)
    (ih : ∀ (c : Tr) (l : List ByteArray), Nd 1 d c → l.length + (rng d c low high).length ≤ 2147483648 → CallOK Try.prog 40 [.c (.own 1 (l.map rowS)), .agg [.y (.sl 1 (c.keys.map rowS)), .y (.sl 1 (c.vals.map rowS)), .y (.sl 3 (c.kids.map Tr.row))], aS low, aS high] ⟨.c (.own 1 ((l ++ rng d c low high).map rowS)), []⟩) :
    CallOK Try.prog 40 [.c (.own 1 (l.map rowS)), .agg [.y (.sl 1 (t.keys.map rowS)), .y (.sl 1 (t.vals.map rowS)), .y (.sl 3 (t.kids.map Tr.row))], aS low, aS high] ⟨.c (.own 1 ((l ++ rng (d + 1) t low high).map rowS)), []⟩ := by
  obtain ⟨rr, hrr⟩ : ∃ r : Res, r = ⟨.c (.own 1 ((l ++ rng (d + 1) t low high).map rowS)), []⟩ := ⟨_, rfl⟩
  rw [← hrr]
  have l3 := h.le3
  have hk : ∀ i, i ≤ t.keys.length → t.kids.length ≠ 0 → i < t.kids.length ∧ Nd 1 d (t.kid i) := fun i hi hn => nd_kid h hn hi
  have hacc : ∀ i, i ≤ t.keys.length + 1 → l.length + (accR d t low high i).length ≤ 2147483648 := fun i hi => by
    have := accR_len (low := low) (high := high) h hi
    omega
  have hend := accR_end (low := low) (high := high) h
  rw [← hend] at hrr
  clear hend
  obtain ⟨n, hn⟩ : ∃ n, n = t.keys.length := ⟨_, rfl⟩
  obtain ⟨acc, hac⟩ : ∃ f : Nat → List ByteArray, f = accR d t low high := ⟨_, rfl⟩
  rw [← hac, ← hn] at hrr
  simp only [← hac, ← hn] at hacc hk
  have hs : ∀ i, acc (i + 1) = acc i ++ subR d t low high i ++ oneR t low high i := fun i => by rw [hac]; rfl
  have h0 : acc 0 = [] := by rw [hac]; rfl
  obtain ⟨ls, hls⟩ : ∃ xs, xs = l.map rowS := ⟨_, rfl⟩
  rw [← hls]
  clear hac
  obtain ⟨M, hM⟩ := mapEx
  try simp only [hM]
  refine go Try.func40 rfl rfl rfl rfl fun pAdd pSub pMul pQuo pRem pAnd pOr pXor pAndNot pShl pShr pNeg pCompl pConv pLt pLe pEq pSlt pSle pSeq pCat pCatOk pSlen pSsub pSat pIadd pIsub pBnot pBeq pImin pImax pLlen pLsub pLapp pLset pLcopy pLenOk pBytes pRep hF Ca hC r hr => ?_
  cbv
  have zD : ∀ a b, pLe a b = decide (a ≤ b) := leD hF
  have gD : ∀ a b, pLt a b = decide (a < b) := ltD hF
  have nD : ∀ xs : List (List Y), pLlen xs = Int.ofNat xs.length := fun xs => llenIs hF xs
  have uD : ∀ xs a b, pLsub xs a b = (xs.drop a.toNat).take b.toNat := lsubDD hF
  have iD : ∀ a b, pIsub a b = a - b := isubDD hF
  have aD : ∀ a b, pIadd a b = a + b := iaddDD hF
  have kD : ∀ a, pLenOk a = decide (a ≤ 4294967296) := lenOkDD hF
  have pD : ∀ a b, pLapp a b = a ++ b := lappDD hF
  have tD : ∀ l i x, pLset l i x = l.set i.toNat x := lsetDD hF
  have lk : pLlen (M rowS t.keys) = Int.ofNat n := (llenIs hF _).trans (by rw [← hM, List.length_map, ← hn]; rfl)
  have lkk : pLlen (M Tr.row t.kids) = Int.ofNat t.kids.length := (llenIs hF _).trans (by rw [← hM, List.length_map]; rfl)
  refine loop_u (α := Nat × List (List Y)) (fun a st => (st.n 9 (Int.ofNat a.1)).ob 1 (.ar 1 a.2))
    (fun a => a.1 ≤ n + 1 ∧ a.2 = (l ++ acc a.1).map rowS) (fun a => n + 1 - a.1) (0, ls) rfl ⟨Nat.zero_le _, by rw [h0, List.append_nil, hls]⟩ (fun K' hK I a hi ih' => ?_)
  obtain ⟨i, zs⟩ := a
  obtain ⟨hi, hz⟩ := hi
  dsimp only at hi hz
  cbv
  rw [lk]
  have e2 : pAdd .i64 (Int.ofNat i) 1 = Int.ofNat (i + 1) := add1Is hF (by omega)
  refine brkI (fun h => ?_) (fun h => ?_) <;> try cbv
  · have h := leT hF h
    have hi2 : i ≤ n := by ((try simp only [Int.ofNat_eq_natCast] at *); omega)
    have hle1 := hacc (i + 1) (by omega)
    rw [lkk]
    have hs1 := hs i
    refine brkI (fun h' => ?_) (fun h' => ?_) <;> try cbv
    · have h' := ltT hF h'
      have hk0 : t.kids.length ≠ 0 := by ((try simp only [Int.ofNat_eq_natCast] at *); omega)
      obtain ⟨hik, hndk⟩ := hk i hi2 hk0
      have hsub : subR d t low high i = rng d (t.kid i) low high := by rw [subR, if_neg hk0]
      refine lgetM (l := t.kids) (fun u => [.sl 1 (M rowS u.keys), .sl 1 (M rowS u.vals), .sl 3 (M Tr.row u.kids)]) (fun u => by simp only [Tr.row_eq, hM]) (hM _ _).symm hik fun c hc => ?_
      cbv
      have hck : c = t.kid i := hc.trans (getD_at hik).symm
      rw [← hck] at hndk hsub
      have hlen : (l ++ acc i).length + (rng d c low high).length ≤ 2147483648 := by
        rw [hs1, hsub] at hle1
        simp only [List.length_append] at hle1 ⊢; omega
      have cc := ih c (l ++ acc i) hndk hlen
      rw [← hz] at cc
      obtain ⟨z2, hz2⟩ : ∃ z, z = (l ++ acc i ++ rng d c low high).map rowS := ⟨_, rfl⟩
      rw [← hz2] at cc
      rw [← hsub] at hz2
      have hl2 : (l ++ acc i ++ subR d t low high i).length ≤ 2147483648 := by
        rw [hsub]; simp only [List.length_append] at hlen ⊢; omega
      refine callI hC (by have hh := cc; (try simp only [hM] at hh); exact hh) ?_
      cbv
      rw [lk]
      refine brkI (fun h2 => ?_) (fun h2 => ?_) <;> try cbv
      · have h2 := ltT hF h2
        have hin : i < t.keys.length := by ((try simp only [Int.ofNat_eq_natCast] at *); omega)
        refine lgetM (l := t.keys) (fun u => [yS u]) (fun u => by simp only [rowS]) (hM _ _).symm hin fun u hu => ?_
        cbv
        have hku : t.key i = u := getD_of hin hu
        refine brkI (fun h3 => ?_) (fun h3 => ?_) <;> try cbv
        · have h3 := sltT hF h3
          have h1 : oneR t low high i = [] := by rw [oneR, if_neg (fun hh => by have := hh.2; rw [hku, inR, h3] at this; cases this)]
          have e3 : z2 = (l ++ acc (i + 1)).map rowS := by rw [hs1, h1, List.append_nil, ← List.append_assoc]; exact hz2
          conv => arg 1; cbv
          rw [e2]
          exact ih' (i + 1, z2) _ ⟨by omega, e3⟩ (by dsimp only; omega) rfl
        · have h3 := sltF hF h3
          refine lgetM (l := t.keys) (fun u => [yS u]) (fun u => by simp only [rowS]) (hM _ _).symm hin fun u2 hu2 => ?_
          cbv
          have hu2 : u2 = u := hu2.trans hu.symm
          subst hu2
          refine brkI (fun h4 => ?_) (fun h4 => ?_) <;> try cbv
          · have h4 := sleT hF h4
            refine lgetM (l := t.keys) (fun u => [yS u]) (fun u => by simp only [rowS]) (hM _ _).symm hin fun u3 hu3 => ?_
            cbv
            have hu3 : u3 = u2 := hu3.trans hu.symm
            subst hu3
            have h1 : oneR t low high i = [u3] := by rw [oneR, if_pos ⟨hin, by rw [hku, inR, h3, h4]; rfl⟩, hku]
            have q1 : pLenOk (pIadd (pLlen z2) (pLlen [[Y.sc (Value.string u3)]])) = true := lenOkIs hF (by rw [aD, nD, nD, hz2]; simp only [List.length_map, List.length_cons, List.length_nil]; ((try simp only [Int.ofNat_eq_natCast] at *); omega))
            refine brT q1 ?_
            obtain ⟨ys, hys⟩ : ∃ ys, ys = pLapp z2 [[Y.sc (Value.string u3)]] := ⟨_, rfl⟩
            rw [← hys]
            have e3 : ys = (l ++ acc (i + 1)).map rowS := by rw [hys, pD, hs1, h1, ← List.append_assoc, List.map_append, hz2, ← List.append_assoc]; rfl
            conv => arg 1; cbv
            rw [e2]
            exact ih' (i + 1, ys) _ ⟨by omega, e3⟩ (by dsimp only; omega) rfl
          · have h4 := sleF hF h4
            have h1 : oneR t low high i = [] := by rw [oneR, if_neg (fun hh => by have := hh.2; rw [hku, inR, h4, Bool.and_comm] at this; cases this)]
            have e3 : z2 = (l ++ acc (i + 1)).map rowS := by rw [hs1, h1, List.append_nil, ← List.append_assoc]; exact hz2
            conv => arg 1; cbv
            rw [e2]
            exact ih' (i + 1, z2) _ ⟨by omega, e3⟩ (by dsimp only; omega) rfl
      · have h2 := ltF hF h2
        have h1 : oneR t low high i = [] := by rw [oneR, if_neg (fun hh => by have := hh.1; ((try simp only [Int.ofNat_eq_natCast] at *); omega))]
        have e3 : z2 = (l ++ acc (i + 1)).map rowS := by rw [hs1, h1, List.append_nil, ← List.append_assoc]; exact hz2
        conv => arg 1; cbv
        rw [e2]
        exact ih' (i + 1, z2) _ ⟨by omega, e3⟩ (by dsimp only; omega) rfl
    · have h' := ltF hF h'
      have hk0 : t.kids.length = 0 := by ((try simp only [Int.ofNat_eq_natCast] at *); omega)
      have hsub : subR d t low high i = [] := by rw [subR, if_pos hk0]
      have hz2 : zs = (l ++ acc i ++ subR d t low high i).map rowS := by rw [hsub, List.append_nil]; exact hz
      have hl2 : (l ++ acc i ++ subR d t low high i).length ≤ 2147483648 := by
        have := hacc i (by omega)
        rw [hsub]; simp only [List.length_append, List.length_nil]; omega
      rw [lk]
      refine brkI (fun h2 => ?_) (fun h2 => ?_) <;> try cbv
      · have h2 := ltT hF h2
        have hin : i < t.keys.length := by ((try simp only [Int.ofNat_eq_natCast] at *); omega)
        refine lgetM (l := t.keys) (fun u => [yS u]) (fun u => by simp only [rowS]) (hM _ _).symm hin fun u hu => ?_
        cbv
        have hku : t.key i = u := getD_of hin hu
        refine brkI (fun h3 => ?_) (fun h3 => ?_) <;> try cbv
        · have h3 := sltT hF h3
          have h1 : oneR t low high i = [] := by rw [oneR, if_neg (fun hh => by have := hh.2; rw [hku, inR, h3] at this; cases this)]
          have e3 : zs = (l ++ acc (i + 1)).map rowS := by rw [hs1, h1, List.append_nil, ← List.append_assoc]; exact hz2
          conv => arg 1; cbv
          rw [e2]
          exact ih' (i + 1, zs) _ ⟨by omega, e3⟩ (by dsimp only; omega) rfl
        · have h3 := sltF hF h3
          refine lgetM (l := t.keys) (fun u => [yS u]) (fun u => by simp only [rowS]) (hM _ _).symm hin fun u2 hu2 => ?_
          cbv
          have hu2 : u2 = u := hu2.trans hu.symm
          subst hu2
          refine brkI (fun h4 => ?_) (fun h4 => ?_) <;> try cbv
          · have h4 := sleT hF h4
            refine lgetM (l := t.keys) (fun u => [yS u]) (fun u => by simp only [rowS]) (hM _ _).symm hin fun u3 hu3 => ?_
            cbv
            have hu3 : u3 = u2 := hu3.trans hu.symm
            subst hu3
            have h1 : oneR t low high i = [u3] := by rw [oneR, if_pos ⟨hin, by rw [hku, inR, h3, h4]; rfl⟩, hku]
            have q1 : pLenOk (pIadd (pLlen zs) (pLlen [[Y.sc (Value.string u3)]])) = true := lenOkIs hF (by rw [aD, nD, nD, hz2]; simp only [List.length_map, List.length_cons, List.length_nil]; ((try simp only [Int.ofNat_eq_natCast] at *); omega))
            refine brT q1 ?_
            obtain ⟨ys, hys⟩ : ∃ ys, ys = pLapp zs [[Y.sc (Value.string u3)]] := ⟨_, rfl⟩
            rw [← hys]
            have e3 : ys = (l ++ acc (i + 1)).map rowS := by rw [hys, pD, hs1, h1, ← List.append_assoc, List.map_append, hz2, ← List.append_assoc]; rfl
            conv => arg 1; cbv
            rw [e2]
            exact ih' (i + 1, ys) _ ⟨by omega, e3⟩ (by dsimp only; omega) rfl
          · have h4 := sleF hF h4
            have h1 : oneR t low high i = [] := by rw [oneR, if_neg (fun hh => by have := hh.2; rw [hku, inR, h4, Bool.and_comm] at this; cases this)]
            have e3 : zs = (l ++ acc (i + 1)).map rowS := by rw [hs1, h1, List.append_nil, ← List.append_assoc]; exact hz2
            conv => arg 1; cbv
            rw [e2]
            exact ih' (i + 1, zs) _ ⟨by omega, e3⟩ (by dsimp only; omega) rfl
      · have h2 := ltF hF h2
        have h1 : oneR t low high i = [] := by rw [oneR, if_neg (fun hh => by have := hh.1; ((try simp only [Int.ofNat_eq_natCast] at *); omega))]
        have e3 : zs = (l ++ acc (i + 1)).map rowS := by rw [hs1, h1, List.append_nil, ← List.append_assoc]; exact hz2
        conv => arg 1; cbv
        rw [e2]
        exact ih' (i + 1, zs) _ ⟨by omega, e3⟩ (by dsimp only; omega) rfl
  · have h := leF hF h
    have hin : i = n + 1 := by ((try simp only [Int.ofNat_eq_natCast] at *); omega)
    refine hK _ _ ?_
    cbv
    rw [hr, hrr, hz, hin]
theorem sKeys_ok : ∀ (d lo : Nat) (t : Tr) (l : List ByteArray) (low high : ByteArray), Nd lo d t → d ≤ 13 → l.length + (rng d t low high).length ≤ 2147483648 →
    CallOK Try.prog 40 [.c (.own 1 (l.map rowS)), .agg [.y (.sl 1 (t.keys.map rowS)), .y (.sl 1 (t.vals.map rowS)), .y (.sl 3 (t.kids.map Tr.row))], aS low, aS high] ⟨.c (.own 1 ((l ++ rng d t low high).map rowS)), []⟩
  | 0, _, _, _, _, _, h, _, _ => h.elim
  | d + 1, lo, t, l, low, high, h, hd, hl => sKeys_of d lo t l low high h (by omega) hl fun c l' hc hl' => sKeys_ok d 1 c l' low high hc (by omega) hl'
end Go.Proofs.Ythaelohccopgjaa
