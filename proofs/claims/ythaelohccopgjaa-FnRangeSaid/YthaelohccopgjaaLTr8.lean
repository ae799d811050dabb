/- Functions of the program, each with what it returns, run by the evaluator; the conditions stand in the theorems. -/
import Derived.Test.YthaelohccopgjaaLTr7
namespace Go.Proofs.Ythaelohccopgjaa
open Go Go.Proofs.YthaelohccopgjaaW Go.Proofs
set_option linter.unusedVariables false
set_option linter.unusedSimpArgs false
set_option maxRecDepth 100000
set_option maxHeartbeats 8000000
theorem okT_sorted {d : Nat} {root : Bool} {t : Tr} {lo hi : Option ByteArray} (h : okT d root t lo hi = true) : t.Sorted := by
  cases d with
  | zero => rw [okT] at h; cases h
  | succ d =>
    rw [okT] at h
    simp only [Bool.and_eq_true] at h
    intro i h0 hi
    have := allTo_iff.1 h.1.2 i hi
    simp only [Tr.keyOk, Bool.and_eq_true, Bool.or_eq_true, decide_eq_true_eq] at this
    exact this.1.1.2.resolve_left (by omega)
theorem okT_shape {d : Nat} {root : Bool} {t : Tr} {lo hi : Option ByteArray} (h : okT d root t lo hi = true) : t.keys.length ≤ 3 ∧ t.vals.length = t.keys.length ∧ (t.kids.length = 0 ∨ t.kids.length = t.keys.length + 1) := by
  cases d with
  | zero => rw [okT] at h; cases h
  | succ d =>
    rw [okT] at h
    simp only [Bool.and_eq_true, Tr.shape, Bool.or_eq_true, decide_eq_true_eq] at h
    obtain ⟨⟨⟨⟨⟨⟨h1, _⟩, h2⟩, h3⟩, _⟩, _⟩, _⟩ := h
    refine ⟨h1, h2, h3.imp id fun h => h.1⟩
theorem okT_kid {d : Nat} {root : Bool} {t : Tr} {lo hi : Option ByteArray} (h : okT (d + 1) root t lo hi = true) {i : Nat} (hi' : i < t.kids.length) : okT d false (t.kid i) (t.lowAt lo i) (t.highAt hi i) = true := by
  rw [okT] at h
  simp only [Bool.and_eq_true] at h
  exact allTo_iff.1 h.2 i hi'
def outS (o : Option ByteArray) : ByteArray := o.getD noS
def Tr.OkAt (d : Nat) (t : Tr) : Prop := ∃ root lo hi, okT d root t lo hi = true
theorem Tr.OkAt.lens {d : Nat} {t : Tr} (h : t.OkAt d) : t.keys.length ≤ 3 ∧ t.vals.length = t.keys.length ∧ (t.kids.length = 0 ∨ t.kids.length = t.keys.length + 1) := let ⟨_, _, _, h⟩ := h; okT_shape h
theorem Tr.OkAt.kid {d : Nat} {t : Tr} (h : t.OkAt (d + 1)) {i : Nat} (hi : i < t.kids.length) : (t.kid i).OkAt d := let ⟨_, _, _, h⟩ := h; ⟨_, _, _, okT_kid h hi⟩
theorem Tr.OkAt.sorted {d : Nat} {t : Tr} (h : t.OkAt d) : t.Sorted := let ⟨_, _, _, h⟩ := h; okT_sorted h
theorem Tr.OkAt.pos {d : Nat} {t : Tr} (h : t.OkAt d) : ∃ d', d = d' + 1 := by
  obtain ⟨_, _, _, h⟩ := h
  cases d with
  | zero => rw [okT] at h; cases h
  | succ d => exact ⟨d, rfl⟩
theorem sGet_ok (d : Nat) (t : Tr) (key : ByteArray) (hok : t.OkAt d) : CallOK Try.prog 47 [.agg [.y (.sl 1 (t.keys.map rowS)), .y (.sl 1 (t.vals.map rowS)), .y (.sl 3 (t.kids.map Tr.row))], aS key] (tupSB (outS (getT d t key)) (getT d t key).isSome) := by
  obtain ⟨g, hg⟩ : ∃ g, g = getT d t key := ⟨_, rfl⟩
  rw [← hg]
  obtain ⟨gs, hgs⟩ : ∃ s, s = outS g := ⟨_, rfl⟩
  obtain ⟨gb, hgb⟩ : ∃ s, s = g.isSome := ⟨_, rfl⟩
  rw [← hgs, ← hgb]
  obtain ⟨M, hM⟩ := mapEx
  try simp only [hM]
  refine go Try.func47 rfl rfl rfl rfl fun pAdd pSub pMul pQuo pRem pAnd pOr pXor pAndNot pShl pShr pNeg pCompl pConv pLt pLe pEq pSlt pSle pSeq pCat pCatOk pSlen pSsub pSat pIadd pIsub pBnot pBeq pImin pImax pLlen pLsub pLapp pLset pLcopy pLenOk pBytes pRep hF Ca hC r hr => ?_
  cbv
  refine loop_u (α := Nat × Tr) (fun a st => st.ob 2000 (.bx [.y (.sl 1 (M rowS a.2.keys)), .y (.sl 1 (M rowS a.2.vals)), .y (.sl 3 (M Tr.row a.2.kids))])) (fun a => a.2.OkAt a.1 ∧ g = getT a.1 a.2 key) (fun a => a.1) (d, t) rfl ⟨hok, hg⟩ (fun K' hK I a hi ih1 => ?_)
  obtain ⟨m, c⟩ := a
  obtain ⟨hc, hq⟩ := hi
  dsimp only at hc hq
  obtain ⟨m, rfl⟩ := hc.pos
  have ln := hc.lens
  have hpl := c.plc_le key
  rw [getT] at hq
  obtain ⟨p, hp⟩ : ∃ p, p = c.plc key := ⟨_, rfl⟩
  obtain ⟨b, hb⟩ : ∃ p, p = c.has key := ⟨_, rfl⟩
  have hbp : b = true → p < c.keys.length := by
    intro h; rw [hb, Tr.has, Bool.and_eq_true, decide_eq_true_eq, ← hp] at h; exact h.1
  have cp := sPlace_ok c key (by rw [maxLen_is]; omega)
  rw [← hp, ← hb] at cp
  rw [← hp] at hpl
  rw [← hb, ← hp] at hq
  cbv
  refine callI hC (by have hh := cp; (try simp only [hM] at hh); exact hh) ?_
  cbv
  cases b with
  | true =>
    have hs : p < c.vals.length := by have := hbp rfl; omega
    cbv
    refine lgetM (l := c.vals) (fun u => [yS u]) (fun u => by simp only [rowS]) (hM _ _).symm hs fun u hu => ?_
    cbv
    refine hK _ _ ?_
    cbv
    rw [if_pos rfl, show c.val p = u from getD_of hs hu] at hq
    rw [hr, hgs, hgb, hq]; rfl
  | false =>
    rw [if_neg (by decide)] at hq
    have lkk : pLlen (M Tr.row c.kids) = Int.ofNat c.kids.length := (llenIs hF _).trans (by rw [← hM, List.length_map]; rfl)
    obtain ⟨nk, hnk⟩ : ∃ n, n = c.kids.length := ⟨_, rfl⟩
    rw [← hnk] at lkk hq
    cbv
    rw [lkk]
    refine brkI (fun h0 => ?_) (fun h0 => ?_) <;> try cbv
    · have h0 := eqT hF h0
      rw [if_pos (by ((try simp only [Int.ofNat_eq_natCast] at *); omega))] at hq
      refine hK _ _ ?_
      cbv
      rw [hr, hgs, hgb, hq]; rfl
    · have h0 := eqF hF h0
      rw [if_neg (by ((try simp only [Int.ofNat_eq_natCast] at *); omega))] at hq
      have hs : p < c.kids.length := by rw [← hnk] at ln ⊢; ((try simp only [Int.ofNat_eq_natCast] at *); omega)
      refine lgetM (l := c.kids) (fun u => [.sl 1 (M rowS u.keys), .sl 1 (M rowS u.vals), .sl 3 (M Tr.row u.kids)]) (fun u => by simp only [Tr.row_eq, hM]) (hM _ _).symm hs fun u hu => ?_
      cbv
      have ku : c.kid p = u := getD_of hs hu
      refine ih1 (m, u) _ ⟨ku ▸ hc.kid hs, by rw [hq, ku]⟩ (by dsimp only; omega) rfl
theorem iFind_ok (d : Nat) (t : Tr) (key : ByteArray) (hok : t.OkAt d) : CallOK Try.prog 43 [.agg [.y (.sl 1 (t.keys.map rowS)), .y (.sl 1 (t.vals.map rowS)), .y (.sl 3 (t.kids.map Tr.row))], aS key] (tupSB (outS (getT d t key)) (getT d t key).isSome) := by
  obtain ⟨g, hg⟩ : ∃ g, g = getT d t key := ⟨_, rfl⟩
  rw [← hg]
  obtain ⟨gs, hgs⟩ : ∃ s, s = outS g := ⟨_, rfl⟩
  obtain ⟨gb, hgb⟩ : ∃ s, s = g.isSome := ⟨_, rfl⟩
  rw [← hgs, ← hgb]
  obtain ⟨M, hM⟩ := mapEx
  try simp only [hM]
  refine go Try.func43 rfl rfl rfl rfl fun pAdd pSub pMul pQuo pRem pAnd pOr pXor pAndNot pShl pShr pNeg pCompl pConv pLt pLe pEq pSlt pSle pSeq pCat pCatOk pSlen pSsub pSat pIadd pIsub pBnot pBeq pImin pImax pLlen pLsub pLapp pLset pLcopy pLenOk pBytes pRep hF Ca hC r hr => ?_
  cbv
  refine loop_u (α := Nat × Tr) (fun a st => st.ob 2000 (.bx [.y (.sl 1 (M rowS a.2.keys)), .y (.sl 1 (M rowS a.2.vals)), .y (.sl 3 (M Tr.row a.2.kids))])) (fun a => a.2.OkAt a.1 ∧ g = getT a.1 a.2 key) (fun a => a.1) (d, t) rfl ⟨hok, hg⟩ (fun K' hK I a hi ih1 => ?_)
  obtain ⟨m, c⟩ := a
  obtain ⟨hc, hq⟩ := hi
  dsimp only at hc hq
  obtain ⟨m, rfl⟩ := hc.pos
  have ln := hc.lens
  have hpl := c.plc_le key
  rw [getT] at hq
  obtain ⟨p, hp⟩ : ∃ p, p = c.plc key := ⟨_, rfl⟩
  obtain ⟨b, hb⟩ : ∃ p, p = c.has key := ⟨_, rfl⟩
  have hbp : b = true → p < c.keys.length := by
    intro h; rw [hb, Tr.has, Bool.and_eq_true, decide_eq_true_eq, ← hp] at h; exact h.1
  have cp := bsearch_ok c key (by omega) hc.sorted
  rw [← hp, ← hb] at cp
  rw [← hp] at hpl
  rw [← hb, ← hp] at hq
  cbv
  refine callI hC (by have hh := cp; (try simp only [hM] at hh); exact hh) ?_
  cbv
  cases b with
  | true =>
    have hs : p < c.vals.length := by have := hbp rfl; omega
    cbv
    refine lgetM (l := c.vals) (fun u => [yS u]) (fun u => by simp only [rowS]) (hM _ _).symm hs fun u hu => ?_
    cbv
    refine hK _ _ ?_
    cbv
    rw [if_pos rfl, show c.val p = u from getD_of hs hu] at hq
    rw [hr, hgs, hgb, hq]; rfl
  | false =>
    rw [if_neg (by decide)] at hq
    have lkk : pLlen (M Tr.row c.kids) = Int.ofNat c.kids.length := (llenIs hF _).trans (by rw [← hM, List.length_map]; rfl)
    obtain ⟨nk, hnk⟩ : ∃ n, n = c.kids.length := ⟨_, rfl⟩
    rw [← hnk] at lkk hq
    cbv
    rw [lkk]
    refine brkI (fun h0 => ?_) (fun h0 => ?_) <;> try cbv
    · have h0 := eqT hF h0
      rw [if_pos (by ((try simp only [Int.ofNat_eq_natCast] at *); omega))] at hq
      refine hK _ _ ?_
      cbv
      rw [hr, hgs, hgb, hq]; rfl
    · have h0 := eqF hF h0
      rw [if_neg (by ((try simp only [Int.ofNat_eq_natCast] at *); omega))] at hq
      have hs : p < c.kids.length := by rw [← hnk] at ln ⊢; ((try simp only [Int.ofNat_eq_natCast] at *); omega)
      refine lgetM (l := c.kids) (fun u => [.sl 1 (M rowS u.keys), .sl 1 (M rowS u.vals), .sl 3 (M Tr.row u.kids)]) (fun u => by simp only [Tr.row_eq, hM]) (hM _ _).symm hs fun u hu => ?_
      cbv
      have ku : c.kid p = u := getD_of hs hu
      refine ih1 (m, u) _ ⟨ku ▸ hc.kid hs, by rw [hq, ku]⟩ (by dsimp only; omega) rfl
def outVal (t : Tr) (key : ByteArray) : ByteArray := if tooLong key then noS else if rightT t then outS (getT (deepT 13 t) t key) else noS
def outCode (t : Tr) (key : ByteArray) : Int := if tooLong key then 2 else if rightT t then (if (getT (deepT 13 t) t key).isSome then 0 else 8) else 1
theorem right_okAt {t : Tr} (h : rightT t = true) : t.OkAt (deepT 13 t) := by
  rw [rightT, Bool.and_eq_true] at h
  exact ⟨_, _, _, h.2⟩
theorem getNone {d : Nat} {t : Tr} {key : ByteArray} (h : (getT d t key).isSome = false) : outS (getT d t key) = noS := by
  cases hg : getT d t key with
  | none => rfl
  | some s => rw [hg] at h; cases h
theorem sTreeGet_ok (t : Tr) (key : ByteArray) (hb : Tr.Bd 1048576 t) : CallOK Try.prog 20 [.agg [.y (.sl 1 (t.keys.map rowS)), .y (.sl 1 (t.vals.map rowS)), .y (.sl 3 (t.kids.map Tr.row))], aS key] ⟨.agg [.y (yS (outVal t key)), .y (yN (outCode t key))], []⟩ := by
  have c1 := sTreeRight_ok t hb.up
  have c2 := fun h => sGet_ok (deepT 13 t) t key (right_okAt h)
  obtain ⟨v, hv⟩ : ∃ v, v = outVal t key := ⟨_, rfl⟩
  obtain ⟨c, hc⟩ : ∃ v, v = outCode t key := ⟨_, rfl⟩
  rw [← hv, ← hc]
  rw [outVal] at hv
  rw [outCode] at hc
  have gn := getNone (d := deepT 13 t) (t := t) (key := key)
  obtain ⟨rt, hrt⟩ : ∃ b, b = rightT t := ⟨_, rfl⟩
  rw [← hrt] at c1 c2 hv hc
  obtain ⟨gs, hgs⟩ : ∃ b, b = outS (getT (deepT 13 t) t key) := ⟨_, rfl⟩
  obtain ⟨gb, hgb⟩ : ∃ b, b = (getT (deepT 13 t) t key).isSome := ⟨_, rfl⟩
  rw [← hgs, ← hgb] at c2 gn
  rw [← hgs] at hv
  rw [← hgb] at hc
  obtain ⟨M, hM⟩ := mapEx
  try simp only [hM]
  refine go Try.func20 rfl rfl rfl rfl fun pAdd pSub pMul pQuo pRem pAnd pOr pXor pAndNot pShl pShr pNeg pCompl pConv pLt pLe pEq pSlt pSle pSeq pCat pCatOk pSlen pSsub pSat pIadd pIsub pBnot pBeq pImin pImax pLlen pLsub pLapp pLset pLcopy pLenOk pBytes pRep hF Ca hC r hr => ?_
  cbv
  have el : pSlen key = Int.ofNat key.size := slenIs hF key
  refine brkI (fun h => ?_) (fun h => ?_) <;> try cbv
  · have h := ltT hF h
    have h' : tooLong key = true := decide_eq_true (by rw [el] at h; ((try simp only [Int.ofNat_eq_natCast] at *); omega))
    rw [h', if_pos rfl] at hv hc
    rw [hr, hv, hc]; rfl
  · have h := ltF hF h
    have h' : tooLong key = false := decide_eq_false (by rw [el] at h; ((try simp only [Int.ofNat_eq_natCast] at *); omega))
    rw [h', if_neg (by decide)] at hv hc
    refine callB hC (by have hh := c1; (try simp only [hM] at hh); exact hh) (fun h1 => ?_) (fun h1 => ?_) <;> try cbv
    · rw [if_pos h1] at hv hc
      refine callI hC (by have hh := c2 h1; (try simp only [hM] at hh); exact hh) ?_
      cbv
      cases gb with
      | true => cbv; rw [if_pos rfl] at hc; rw [hr, hv, hc]
      | false => cbv; rw [if_neg (by decide)] at hc; rw [hr, hv, hc, gn rfl]; rfl
    · rw [if_neg (by rw [h1]; decide)] at hv hc
      rw [hr, hv, hc]; rfl
theorem iTreeGet_ok (t : Tr) (key : ByteArray) (hb : Tr.Bd 1048576 t) : CallOK Try.prog 13 [.agg [.y (.sl 1 (t.keys.map rowS)), .y (.sl 1 (t.vals.map rowS)), .y (.sl 3 (t.kids.map Tr.row))], aS key] ⟨.agg [.y (yS (outVal t key)), .y (yN (outCode t key))], []⟩ := by
  have c1 := iTreeRight_ok t hb
  have c2 := fun h => iFind_ok (deepT 13 t) t key (right_okAt h)
  obtain ⟨v, hv⟩ : ∃ v, v = outVal t key := ⟨_, rfl⟩
  obtain ⟨c, hc⟩ : ∃ v, v = outCode t key := ⟨_, rfl⟩
  rw [← hv, ← hc]
  rw [outVal] at hv
  rw [outCode] at hc
  have gn := getNone (d := deepT 13 t) (t := t) (key := key)
  obtain ⟨rt, hrt⟩ : ∃ b, b = rightT t := ⟨_, rfl⟩
  rw [← hrt] at c1 c2 hv hc
  obtain ⟨gs, hgs⟩ : ∃ b, b = outS (getT (deepT 13 t) t key) := ⟨_, rfl⟩
  obtain ⟨gb, hgb⟩ : ∃ b, b = (getT (deepT 13 t) t key).isSome := ⟨_, rfl⟩
  rw [← hgs, ← hgb] at c2 gn
  rw [← hgs] at hv
  rw [← hgb] at hc
  obtain ⟨M, hM⟩ := mapEx
  try simp only [hM]
  refine go Try.func13 rfl rfl rfl rfl fun pAdd pSub pMul pQuo pRem pAnd pOr pXor pAndNot pShl pShr pNeg pCompl pConv pLt pLe pEq pSlt pSle pSeq pCat pCatOk pSlen pSsub pSat pIadd pIsub pBnot pBeq pImin pImax pLlen pLsub pLapp pLset pLcopy pLenOk pBytes pRep hF Ca hC r hr => ?_
  cbv
  refine callB hC (isLong_ok [key] (by simp)) (fun h => ?_) (fun h => ?_) <;> cbv
  all_goals rw [List.any_cons, List.any_nil, Bool.or_false] at h
  · rw [h, if_pos rfl] at hv hc
    rw [hr, hv, hc]; rfl
  · rw [h, if_neg (by decide)] at hv hc
    refine callB hC (by have hh := c1; (try simp only [hM] at hh); exact hh) (fun h1 => ?_) (fun h1 => ?_) <;> try cbv
    · rw [if_pos h1] at hv hc
      refine callI hC (by have hh := c2 h1; (try simp only [hM] at hh); exact hh) ?_
      cbv
      cases gb with
      | true => cbv; rw [if_pos rfl] at hc; rw [hr, hv, hc]
      | false => cbv; rw [if_neg (by decide)] at hc; rw [hr, hv, hc, gn rfl]; rfl
    · rw [if_neg (by rw [h1]; decide)] at hv hc
      rw [hr, hv, hc]; rfl
end Go.Proofs.Ythaelohccopgjaa
