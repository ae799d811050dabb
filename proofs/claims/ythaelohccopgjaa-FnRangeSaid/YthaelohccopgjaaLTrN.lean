/- Functions of the program, each with what it returns, run by the evaluator; the conditions stand in the theorems. -/
import Derived.Test.YthaelohccopgjaaLTrE
namespace Go.Proofs.Ythaelohccopgjaa
open Go Go.Proofs.YthaelohccopgjaaW Go.Proofs
set_option linter.unusedVariables false
set_option linter.unusedSimpArgs false
set_option maxRecDepth 100000
set_option maxHeartbeats 8000000
theorem iRanged_of (d lo : Nat) (t : Tr) (low high : ByteArray) (h : Nd lo (d + 1) t) (hd : d ≤ 12) (hl : (rng (d + 1) t low high).length ≤ 2147483648)
    (ih : ∀ (c : Tr), Nd 1 d c → (rng d c low high).length ≤ 2147483648 → CallOK Try.prog 52 [.agg [.y (.sl 1 (c.keys.map rowS)), .y (.sl 1 (c.vals.map rowS)), .y (.sl 3 (c.kids.map Tr.row))], aS low, aS high] ⟨.c (.own 1 ((rng d c low high).map rowS)), []⟩) :
    CallOK Try.prog 52 [.agg [.y (.sl 1 (t.keys.map rowS)), .y (.sl 1 (t.vals.map rowS)), .y (.sl 3 (t.kids.map Tr.row))], aS low, aS high] ⟨.c (.own 1 ((rng (d + 1) t low high).map rowS)), []⟩ := by
  obtain ⟨rr, hrr⟩ : ∃ r : Res, r = ⟨.c (.own 1 ((rng (d + 1) t low high).map rowS)), []⟩ := ⟨_, rfl⟩
  rw [← hrr]
  have l3 := h.le3
  have hk : ∀ i, i ≤ t.keys.length → t.kids.length ≠ 0 → i < t.kids.length ∧ Nd 1 d (t.kid i) := fun i hi hn => nd_kid h hn hi
  have hacc : ∀ i, i ≤ t.keys.length + 1 → (accR d t low high i).length ≤ 2147483648 := fun i hi => by
    have := accR_len (low := low) (high := high) h hi
    omega
  have hend := accR_end (low := low) (high := high) h
  rw [← hend] at hrr
  clear hend
  obtain ⟨n, hn⟩ : ∃ n, n = t.keys.length := ⟨_, rfl⟩
  obtain ⟨acc, hac⟩ : ∃ f : Nat → List ByteArray, f = accR d t low high := ⟨_, rfl⟩
  rw [← hac, ← hn] at hrr
  simp only [← hac, ← hn] at hacc hk
  have hs : ∀ i, acc (i + 1) = acc i ++ subR d t low high i ++ oneR t low high i := fun i => by rw [hac]; rfl
  have h0 : acc 0 = [] := by rw [hac]; rfl
  clear hac
  obtain ⟨M, hM⟩ := mapEx
  try simp only [hM]
  refine go Try.func52 rfl rfl rfl rfl fun pAdd pSub pMul pQuo pRem pAnd pOr pXor pAndNot pShl pShr pNeg pCompl pConv pLt pLe pEq pSlt pSle pSeq pCat pCatOk pSlen pSsub pSat pIadd pIsub pBnot pBeq pImin pImax pLlen pLsub pLapp pLset pLcopy pLenOk pBytes pRep hF Ca hC r hr => ?_
  cbv
  have zD : ∀ a b, pLe a b = decide (a ≤ b) := leD hF
  have gD : ∀ a b, pLt a b = decide (a < b) := ltD hF
  have nD : ∀ xs : List (List Y), pLlen xs = Int.ofNat xs.length := fun xs => llenIs hF xs
  have uD : ∀ xs a b, pLsub xs a b = (xs.drop a.toNat).take b.toNat := lsubDD hF
  have iD : ∀ a b, pIsub a b = a - b := isubDD hF
  have aD : ∀ a b, pIadd a b = a + b := iaddDD hF
  have kD : ∀ a, pLenOk a = decide (a ≤ 4294967296) := lenOkDD hF
  have pD : ∀ a b, pLapp a b = a ++ b := lappDD hF
  have tD : ∀ l i x, pLset l i x = l.set i.toNat x := lsetDD hF
  have lk : pLlen (M rowS t.keys) = Int.ofNat n := (llenIs hF _).trans (by rw [← hM, List.length_map, ← hn]; rfl)
  have lkk : pLlen (M Tr.row t.kids) = Int.ofNat t.kids.length := (llenIs hF _).trans (by rw [← hM, List.length_map]; rfl)
  have e1 : pAdd .i64 (Int.ofNat n) 1 = Int.ofNat (n + 1) := add1Is hF (by omega)
  rw [lk, e1]
  obtain ⟨n1, hn1⟩ : ∃ m, m = n + 1 := ⟨_, rfl⟩
  rw [← hn1]
  refine loop_u (α := Nat × List (List Y)) (fun a st => (st.n 14 (Int.ofNat a.1)).ob 7001 (.ar 1 a.2))
    (fun a => a.1 ≤ n + 1 ∧ a.2 = (acc a.1).map rowS) (fun a => n + 1 - a.1) (0, []) rfl ⟨Nat.zero_le _, by rw [h0]; rfl⟩ (fun K' hK I a hi ih' => ?_)
  obtain ⟨i, zs⟩ := a
  obtain ⟨hi, hz⟩ := hi
  dsimp only at hi hz
  cbv
  have e2 : pAdd .i64 (Int.ofNat i) 1 = Int.ofNat (i + 1) := add1Is hF (by omega)
  refine brkI (fun h => ?_) (fun h => ?_) <;> try cbv
  · have h := ltT hF h
    have hi2 : i ≤ n := by ((try simp only [Int.ofNat_eq_natCast] at *); omega)
    have hle1 := hacc (i + 1) (by omega)
    rw [lkk]
    have hs1 := hs i
    refine brkI (fun h' => ?_) (fun h' => ?_) <;> try cbv
    · have h' := ltT hF h'
      have hk0 : t.kids.length ≠ 0 := by ((try simp only [Int.ofNat_eq_natCast] at *); omega)
      obtain ⟨hik, hndk⟩ := hk i hi2 hk0
      have hsub : subR d t low high i = rng d (t.kid i) low high := by rw [subR, if_neg hk0]
      refine lgetM (l := t.kids) (fun u => [.sl 1 (M rowS u.keys), .sl 1 (M rowS u.vals), .sl 3 (M Tr.row u.kids)]) (fun u => by simp only [Tr.row_eq, hM]) (hM _ _).symm hik fun c hc => ?_
      cbv
      have hck : c = t.kid i := hc.trans (getD_at hik).symm
      rw [← hck] at hndk hsub
      have hlen : (acc i ++ rng d c low high).length ≤ 2147483648 := by
        rw [hs1, hsub] at hle1
        simp only [List.length_append] at hle1 ⊢; omega
      have cc := ih c hndk (by simp only [List.length_append] at hlen; omega)
      obtain ⟨zc, hzc⟩ : ∃ z, z = (rng d c low high).map rowS := ⟨_, rfl⟩
      rw [← hzc] at cc
      refine callI hC (by have hh := cc; (try simp only [hM] at hh); exact hh) ?_
      cbv
      have q0 : pLenOk (pIadd (pLlen zs) (pLlen zc)) = true := lenOkIs hF (by rw [aD, nD, nD, hz, hzc]; simp only [List.length_map, List.length_append] at hlen ⊢; ((try simp only [Int.ofNat_eq_natCast] at *); omega))
      refine brT q0 ?_
      obtain ⟨z2, hz2⟩ : ∃ z, z = pLapp zs zc := ⟨_, rfl⟩
      rw [← hz2]
      have hz2 : z2 = (acc i ++ subR d t low high i).map rowS := by rw [hz2, pD, hz, hzc, hsub, List.map_append]
      have hl2 : (acc i ++ subR d t low high i).length ≤ 2147483648 := by
        rw [hsub]; exact hlen
      rw [lk]
      refine brkI (fun h2 => ?_) (fun h2 => ?_) <;> try cbv
      · have h2 := ltT hF h2
        have hin : i < t.keys.length := by ((try simp only [Int.ofNat_eq_natCast] at *); omega)
        refine lgetM (l := t.keys) (fun u => [yS u]) (fun u => by simp only [rowS]) (hM _ _).symm hin fun u hu => ?_
        cbv
        have hku : t.key i = u := getD_of hin hu
        refine brkI (fun h3 => ?_) (fun h3 => ?_) <;> try cbv
        · have h3 := sleT hF h3
          refine lgetM (l := t.keys) (fun u => [yS u]) (fun u => by simp only [rowS]) (hM _ _).symm hin fun u2 hu2 => ?_
          cbv
          have hu2 : u2 = u := hu2.trans hu.symm
          subst hu2
          refine brkI (fun h4 => ?_) (fun h4 => ?_) <;> try cbv
          · have h4 := sleT hF h4
            refine lgetM (l := t.keys) (fun u => [yS u]) (fun u => by simp only [rowS]) (hM _ _).symm hin fun u3 hu3 => ?_
            cbv
            have hu3 : u3 = u2 := hu3.trans hu.symm
            subst hu3
            have h1 : oneR t low high i = [u3] := by rw [oneR, if_pos ⟨hin, by rw [hku, inR, h3, h4]; rfl⟩, hku]
            have q1 : pLenOk (pIadd (pLlen z2) (pLlen [[Y.sc (Value.string u3)]])) = true := lenOkIs hF (by rw [aD, nD, nD, hz2]; simp only [List.length_map, List.length_cons, List.length_nil]; ((try simp only [Int.ofNat_eq_natCast] at *); omega))
            refine brT q1 ?_
            obtain ⟨ys, hys⟩ : ∃ ys, ys = pLapp z2 [[Y.sc (Value.string u3)]] := ⟨_, rfl⟩
            rw [← hys]
            have e3 : ys = (acc (i + 1)).map rowS := by rw [hys, pD, hs1, h1, List.map_append, hz2]; rfl
            conv => arg 1; cbv
            rw [e2]
            exact ih' (i + 1, ys) _ ⟨by omega, e3⟩ (by dsimp only; omega) rfl
          · have h4 := sleF hF h4
            have h1 : oneR t low high i = [] := by rw [oneR, if_neg (fun hh => by have := hh.2; rw [hku, inR, h4, Bool.and_comm] at this; cases this)]
            have e3 : z2 = (acc (i + 1)).map rowS := by rw [hs1, h1, List.append_nil]; exact hz2
            conv => arg 1; cbv
            rw [e2]
            exact ih' (i + 1, z2) _ ⟨by omega, e3⟩ (by dsimp only; omega) rfl
        · have h3 := sleF hF h3
          have h1 : oneR t low high i = [] := by rw [oneR, if_neg (fun hh => by have := hh.2; rw [hku, inR, h3] at this; cases this)]
          have e3 : z2 = (acc (i + 1)).map rowS := by rw [hs1, h1, List.append_nil]; exact hz2
          conv => arg 1; cbv
          rw [e2]
          exact ih' (i + 1, z2) _ ⟨by omega, e3⟩ (by dsimp only; omega) rfl
      · have h2 := ltF hF h2
        have h1 : oneR t low high i = [] := by rw [oneR, if_neg (fun hh => by have := hh.1; ((try simp only [Int.ofNat_eq_natCast] at *); omega))]
        have e3 : z2 = (acc (i + 1)).map rowS := by rw [hs1, h1, List.append_nil]; exact hz2
        conv => arg 1; cbv
        rw [e2]
        exact ih' (i + 1, z2) _ ⟨by omega, e3⟩ (by dsimp only; omega) rfl
    · have h' := ltF hF h'
      have hk0 : t.kids.length = 0 := by ((try simp only [Int.ofNat_eq_natCast] at *); omega)
      have hsub : subR d t low high i = [] := by rw [subR, if_pos hk0]
      have hz2 : zs = (acc i ++ subR d t low high i).map rowS := by rw [hsub, List.append_nil]; exact hz
      have hl2 : (acc i ++ subR d t low high i).length ≤ 2147483648 := by
        have := hacc i (by omega)
        rw [hsub]; simp only [List.length_append, List.length_nil]; omega
      rw [lk]
      refine brkI (fun h2 => ?_) (fun h2 => ?_) <;> try cbv
      · have h2 := ltT hF h2
        have hin : i < t.keys.length := by ((try simp only [Int.ofNat_eq_natCast] at *); omega)
        refine lgetM (l := t.keys) (fun u => [yS u]) (fun u => by simp only [rowS]) (hM _ _).symm hin fun u hu => ?_
        cbv
        have hku : t.key i = u := getD_of hin hu
        refine brkI (fun h3 => ?_) (fun h3 => ?_) <;> try cbv
        · have h3 := sleT hF h3
          refine lgetM (l := t.keys) (fun u => [yS u]) (fun u => by simp only [rowS]) (hM _ _).symm hin fun u2 hu2 => ?_
          cbv
          have hu2 : u2 = u := hu2.trans hu.symm
          subst hu2
          refine brkI (fun h4 => ?_) (fun h4 => ?_) <;> try cbv
          · have h4 := sleT hF h4
            refine lgetM (l := t.keys) (fun u => [yS u]) (fun u => by simp only [rowS]) (hM _ _).symm hin fun u3 hu3 => ?_
            cbv
            have hu3 : u3 = u2 := hu3.trans hu.symm
            subst hu3
            have h1 : oneR t low high i = [u3] := by rw [oneR, if_pos ⟨hin, by rw [hku, inR, h3, h4]; rfl⟩, hku]
            have q1 : pLenOk (pIadd (pLlen zs) (pLlen [[Y.sc (Value.string u3)]])) = true := lenOkIs hF (by rw [aD, nD, nD, hz2]; simp only [List.length_map, List.length_cons, List.length_nil]; ((try simp only [Int.ofNat_eq_natCast] at *); omega))
            refine brT q1 ?_
            obtain ⟨ys, hys⟩ : ∃ ys, ys = pLapp zs [[Y.sc (Value.string u3)]] := ⟨_, rfl⟩
            rw [← hys]
            have e3 : ys = (acc (i + 1)).map rowS := by rw [hys, pD, hs1, h1, List.map_append, hz2]; rfl
            conv => arg 1; cbv
            rw [e2]
            exact ih' (i + 1, ys) _ ⟨by omega, e3⟩ (by dsimp only; omega) rfl
          · have h4 := sleF hF h4
            have h1 : oneR t low high i = [] := by rw [oneR, if_neg (fun hh => by have := hh.2; rw [hku, inR, h4, Bool.and_comm] at this; cases this)]
            have e3 : zs = (acc (i + 1)).map rowS := by rw [hs1, h1, List.append_nil]; exact hz2
            conv => arg 1; cbv
            rw [e2]
            exact ih' (i + 1, zs) _ ⟨by omega, e3⟩ (by dsimp only; omega) rfl
        · have h3 := sleF hF h3
          have h1 : oneR t low high i = [] := by rw [oneR, if_neg (fun hh => by have := hh.2; rw [hku, inR, h3] at this; cases this)]
          have e3 : zs = (acc (i + 1)).map rowS := by rw [hs1, h1, List.append_nil]; exact hz2
          conv => arg 1; cbv
          rw [e2]
          exact ih' (i + 1, zs) _ ⟨by omega, e3⟩ (by dsimp only; omega) rfl
      · have h2 := ltF hF h2
        have h1 : oneR t low high i = [] := by rw [oneR, if_neg (fun hh => by have := hh.1; ((try simp only [Int.ofNat_eq_natCast] at *); omega))]
        have e3 : zs = (acc (i + 1)).map rowS := by rw [hs1, h1, List.append_nil]; exact hz2
        conv => arg 1; cbv
        rw [e2]
        exact ih' (i + 1, zs) _ ⟨by omega, e3⟩ (by dsimp only; omega) rfl
  · have h := ltF hF h
    have hin : i = n + 1 := by ((try simp only [Int.ofNat_eq_natCast] at *); omega)
    refine hK _ _ ?_
    cbv
    rw [hr, hrr, hz, hin]
theorem iRanged_ok : ∀ (d lo : Nat) (t : Tr) (low high : ByteArray), Nd lo d t → d ≤ 13 → (rng d t low high).length ≤ 2147483648 →
    CallOK Try.prog 52 [.agg [.y (.sl 1 (t.keys.map rowS)), .y (.sl 1 (t.vals.map rowS)), .y (.sl 3 (t.kids.map Tr.row))], aS low, aS high] ⟨.c (.own 1 ((rng d t low high).map rowS)), []⟩
  | 0, _, _, _, _, h, _, _ => h.elim
  | d + 1, lo, t, low, high, h, hd, hl => iRanged_of d lo t low high h (by omega) hl fun c hc hl' => iRanged_ok d 1 c low high hc (by omega) hl'
/-! ## TreeRange, both -/
def rangeT (t : Tr) (low high : ByteArray) : List ByteArray := if tooLong low || tooLong high || !rightT t then [] else rng (deepT 13 t) t low high
theorem rng_small {d lo : Nat} {t : Tr} {low high : ByteArray} (h : Nd lo d t) (hd : d ≤ 12) : (rng d t low high).length ≤ 2147483648 := by
  have h1 := rng_len (d := d) (t := t) (low := low) (high := high)
  have h2 := flat_le h
  have h3 : 4 ^ d ≤ 4 ^ 12 := Nat.pow_le_pow_right (by omega) hd
  have : (4 : Nat) ^ 12 = 16777216 := by decide
  omega
theorem sTreeRange_ok (t : Tr) (low high : ByteArray) (hb : Tr.Bd 1048576 t) : CallOK Try.prog 11 [.agg [.y (.sl 1 (t.keys.map rowS)), .y (.sl 1 (t.vals.map rowS)), .y (.sl 3 (t.kids.map Tr.row))], aS low, aS high] ⟨.c (.own 1 ((rangeT t low high).map rowS)), []⟩ := by
  have c0 := sTreeRight_ok t hb.up
  obtain ⟨rr, hrr⟩ : ∃ r : Res, r = ⟨.c (.own 1 ((rangeT t low high).map rowS)), []⟩ := ⟨_, rfl⟩
  rw [← hrr]
  have hq : rangeT t low high = if tooLong low || tooLong high || !rightT t then [] else rng (deepT 13 t) t low high := rfl
  have cK : rightT t = true → CallOK Try.prog 40 [.c (.own 1 []), .agg [.y (.sl 1 (t.keys.map rowS)), .y (.sl 1 (t.vals.map rowS)), .y (.sl 3 (t.kids.map Tr.row))], aS low, aS high] ⟨.c (.own 1 ((rng (deepT 13 t) t low high).map rowS)), []⟩ := fun h => by
    obtain ⟨d, hd, d1, d2, hN, hS, hZ⟩ := right_nd h
    have := sKeys_ok (deepT 13 t) 0 t [] low high (hd ▸ hN) (by omega) (by rw [← hd]; have := rng_small (low := low) (high := high) hN d2; simpa using this)
    simpa using this
  obtain ⟨rx, hrx⟩ : ∃ r : List (List Y), r = (rng (deepT 13 t) t low high).map rowS := ⟨_, rfl⟩
  rw [← hrx] at cK
  have hq2 : (rangeT t low high).map rowS = if tooLong low || tooLong high || !rightT t then [] else rx := by
    rw [hq, hrx]; split <;> rfl
  rw [hq2] at hrr
  clear hq hq2 hrx
  obtain ⟨b, hb'⟩ : ∃ b, b = rightT t := ⟨_, rfl⟩
  rw [← hb'] at c0 cK hrr
  obtain ⟨M, hM⟩ := mapEx
  try simp only [hM]
  refine go Try.func11 rfl rfl rfl rfl fun pAdd pSub pMul pQuo pRem pAnd pOr pXor pAndNot pShl pShr pNeg pCompl pConv pLt pLe pEq pSlt pSle pSeq pCat pCatOk pSlen pSsub pSat pIadd pIsub pBnot pBeq pImin pImax pLlen pLsub pLapp pLset pLcopy pLenOk pBytes pRep hF Ca hC r hr => ?_
  cbv
  have el : pSlen low = Int.ofNat low.size := slenIs hF low
  have el2 : pSlen high = Int.ofNat high.size := slenIs hF high
  have nil : (tooLong low || tooLong high || !b) = true → (⟨.c (.own 1 []), []⟩ : Res) = rr := fun h => by rw [hrr, if_pos h]
  rw [el]
  refine brkI (fun h => ?_) (fun h => ?_) <;> try cbv
  · have h := ltT hF h
    have h' : tooLong low = true := decide_eq_true (by ((try simp only [Int.ofNat_eq_natCast] at *); omega))
    rw [hr]; exact nil (by rw [h']; rfl)
  · have h := ltF hF h
    have h' : tooLong low = false := decide_eq_false (by ((try simp only [Int.ofNat_eq_natCast] at *); omega))
    rw [el2]
    refine brkI (fun h2 => ?_) (fun h2 => ?_) <;> try cbv
    · have h2 := ltT hF h2
      have h2' : tooLong high = true := decide_eq_true (by ((try simp only [Int.ofNat_eq_natCast] at *); omega))
      rw [hr]; exact nil (by rw [h2', h']; rfl)
    · have h2 := ltF hF h2
      have h2' : tooLong high = false := decide_eq_false (by ((try simp only [Int.ofNat_eq_natCast] at *); omega))
      refine callB hC (by have hh := c0; (try simp only [hM] at hh); exact hh) (fun h3 => ?_) (fun h3 => ?_) <;> try cbv
      · subst h3
        refine callI hC (by have hh := cK rfl; (try simp only [hM] at hh); exact hh) ?_
        cbv
        rw [hr, hrr, h', h2']; rfl
      · subst h3
        rw [hr]; exact nil (by rw [h', h2']; rfl)
end Go.Proofs.Ythaelohccopgjaa
