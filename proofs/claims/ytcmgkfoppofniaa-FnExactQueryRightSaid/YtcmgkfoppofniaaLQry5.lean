/- Functions of the program, each with what it returns, run by the evaluator; the conditions stand in the theorems. -/
import Derived.Test.YtcmgkfoppofniaaLQry4
namespace Go.Proofs.Ytcmgkfoppofniaa
open Go Go.Proofs.YtcmgkfoppofniaaW Go.Proofs
set_option linter.unusedVariables false
set_option linter.unusedSimpArgs false
set_option maxRecDepth 100000
set_option maxHeartbeats 8000000
def aggAt (l : List Itm) (i : Nat) : Bool := decide ((l.getD i default).agg = 0)
def grouped (z : Qry) : Bool := !allTo (aggAt z.items) z.items.length || !decide (z.group = ⟨⟨[]⟩⟩)
theorem grouped_at {z : Qry} {i : Nat} (h : i < z.items.length) (hp : aggAt z.items i = false) : grouped z = true := by rw [grouped, allTo_false h hp]; rfl
theorem grouped_end {z : Qry} (h : allTo (aggAt z.items) z.items.length = true) : grouped z = !decide (z.group = ⟨⟨[]⟩⟩) := by rw [grouped, h]; rfl
theorem sGrouped_ok (z : Qry) (hl : z.items.length ≤ maxLen) : CallOK Try.prog 133 [.agg [.y (.sl 2 (z.items.map Itm.row)), .y (yS z.table), .y (yS z.join), .y (yS z.lft), .y (yS z.rgt), .y (.sl 5 (z.where_.map Trm.row)), .y (yS z.group), .y (yS z.order), .y (yB z.down), .y (yN z.limit)]] (B (grouped z)) := by
  rw [maxLen_is] at hl
  obtain ⟨q, hq⟩ : ∃ q, q = grouped z := ⟨_, rfl⟩
  obtain ⟨xs, hx⟩ : ∃ xs, xs = z.items.map Itm.row := ⟨_, rfl⟩
  have hxl : xs.length = z.items.length := by rw [hx, List.length_map]
  rw [← hq, ← hx]
  obtain ⟨M, hM⟩ := mapEx
  try simp only [hM]
  refine go Try.func133 rfl rfl rfl rfl fun pAdd pSub pMul pQuo pRem pAnd pOr pXor pAndNot pShl pShr pNeg pCompl pConv pLt pLe pEq pSlt pSle pSeq pCat pCatOk pSlen pSsub pSat pIadd pIsub pBnot pBeq pImin pImax pLlen pLsub pLapp pLset pLcopy pLenOk pBytes pRep hF Ca hC r hr => ?_
  cbv
  refine loop_all (fun a st => st.n 3 (Int.ofNat a)) (aggAt z.items) z.items.length rfl (fun K' hK I i hi hp ih => ?_)
  cbv
  refine brkI (fun h => ?_) (fun h => ?_) <;> try cbv
  · have hs : i < z.items.length := hxl ▸ iltT hF h
    have e1 : pAdd .i64 (Int.ofNat i) 1 = Int.ofNat (i + 1) := add1Is hF (by omega)
    refine lgetM (fun u => [yN u.agg, yS u.col]) (fun u => by simp only [Itm.row, hM]) hx hs fun u hu => ?_
    cbv
    have hat : aggAt z.items i = decide (u.agg = 0) := by rw [aggAt, getD_of hs hu]
    refine brkI (fun h => ?_) (fun h => ?_) <;> try cbv
    · conv => arg 1; cbv
      rw [e1]
      exact ih _ hs (hat.trans (decide_eq_true (eqT hF h))) rfl
    · refine hK _ _ ?_
      cbv
      exact retB hr (hq.trans (grouped_at hs (hat.trans (decide_eq_false (eqF hF h)))))
  · have hs : i = z.items.length := Nat.le_antisymm hi (hxl ▸ iltF hF h)
    have he := hq.trans (grouped_end (hs ▸ allTo_iff.2 hp))
    refine hK _ _ ?_
    cbv
    refine brkI (fun h => ?_) (fun h => ?_) <;> try cbv
    · exact retB hr (he.trans (by rw [decide_eq_true (seqT hF h)]; rfl))
    · exact retB hr (he.trans (by rw [decide_eq_false (seqF hF h)]; rfl))
theorem iGrouped_ok (z : Qry) (hl : z.items.length ≤ maxLen) : CallOK Try.prog 143 [.agg [.y (.sl 2 (z.items.map Itm.row)), .y (yS z.table), .y (yS z.join), .y (yS z.lft), .y (yS z.rgt), .y (.sl 5 (z.where_.map Trm.row)), .y (yS z.group), .y (yS z.order), .y (yB z.down), .y (yN z.limit)]] (B (grouped z)) := by
  have hc := isAgg_cf z.items hl
  have he : allTo (fun i => !(fun u : Itm => !decide (u.agg = 0)) (z.items.getD i default)) z.items.length = allTo (aggAt z.items) z.items.length := allTo_congr fun j hj => Bool.not_not _
  rw [he] at hc
  obtain ⟨q, hq⟩ : ∃ q, q = grouped z := ⟨_, rfl⟩
  rw [← hq]
  rw [grouped] at hq
  obtain ⟨p, hp⟩ : ∃ q, q = allTo (aggAt z.items) z.items.length := ⟨_, rfl⟩
  rw [← hp] at hc hq
  clear hp he
  obtain ⟨xs, hx⟩ : ∃ xs, xs = z.items.map Itm.row := ⟨_, rfl⟩
  rw [← hx] at hc ⊢
  obtain ⟨M, hM⟩ := mapEx
  try simp only [hM]
  refine go Try.func143 rfl rfl rfl rfl fun pAdd pSub pMul pQuo pRem pAnd pOr pXor pAndNot pShl pShr pNeg pCompl pConv pLt pLe pEq pSlt pSle pSeq pCat pCatOk pSlen pSsub pSat pIadd pIsub pBnot pBeq pImin pImax pLlen pLsub pLapp pLset pLcopy pLenOk pBytes pRep hF Ca hC r hr => ?_
  cbv
  repeat' (first
    | (refine callB hC hc (fun _ => ?_) (fun _ => ?_) <;> try cbv)
    | (refine brkI (fun _ => ?_) (fun _ => ?_) <;> try cbv))
  all_goals
    refine retB hr (hq.trans ?_)
    clear hC hr hq hc hx
    have lD : ∀ a b, pLt a b = decide (a < b) := ltD hF
    have eD : ∀ a b, pLe a b = decide (a ≤ b) := leD hF
    have qD : ∀ a b, pEq a b = decide (a = b) := eqD hF
    have sD : ∀ a b, pSeq a b = decide (a = b) := seqD hF
    simp only [lD, eD, qD, sD, decide_eq_true_eq, decide_eq_false_iff_not] at *
    clear lD eD qD sD hF
    grind
def badCol (z : Qry) (u : Itm) : Bool := decide (u.agg = 0) && !decide (u.col = z.group)
def itemAt (z : Qry) (i : Nat) : Bool := itemRight (z.items.getD i default).agg (z.items.getD i default).col && !(grouped z && badCol z (z.items.getD i default))
def itemsRight (z : Qry) : Bool := decide (1 ≤ z.items.length) && decide (z.items.length ≤ 10) && allTo (itemAt z) z.items.length
theorem itemsRight_bad {z : Qry} {i : Nat} (h : i < z.items.length) (hp : itemAt z i = false) : itemsRight z = false := by rw [itemsRight, allTo_false h hp, Bool.and_false]
theorem sItems_ok (z : Qry) (hB : Qry.Bd 1048576 z) : CallOK Try.prog 130 [.agg [.y (.sl 2 (z.items.map Itm.row)), .y (yS z.table), .y (yS z.join), .y (yS z.lft), .y (yS z.rgt), .y (.sl 5 (z.where_.map Trm.row)), .y (yS z.group), .y (yS z.order), .y (yB z.down), .y (yN z.limit)]] (B (itemsRight z)) := by
  have hl := hB.1.1
  have hib := hB.1.2
  have hg := sGrouped_ok z (Nat.le_trans hl (by decide))
  obtain ⟨q, hq⟩ : ∃ q, q = itemsRight z := ⟨_, rfl⟩
  obtain ⟨g, hgg⟩ : ∃ q, q = grouped z := ⟨_, rfl⟩
  obtain ⟨xs, hx⟩ : ∃ xs, xs = z.items.map Itm.row := ⟨_, rfl⟩
  have hxl : xs.length = z.items.length := by rw [hx, List.length_map]
  rw [← hgg] at hg
  rw [← hx] at hg
  rw [← hq, ← hx]
  obtain ⟨M, hM⟩ := mapEx
  try simp only [hM]
  refine go Try.func130 rfl rfl rfl rfl fun pAdd pSub pMul pQuo pRem pAnd pOr pXor pAndNot pShl pShr pNeg pCompl pConv pLt pLe pEq pSlt pSle pSeq pCat pCatOk pSlen pSsub pSat pIadd pIsub pBnot pBeq pImin pImax pLlen pLsub pLapp pLset pLcopy pLenOk pBytes pRep hF Ca hC r hr => ?_
  cbv
  have ex : pLlen xs = Int.ofNat z.items.length := by rw [← hxl]; exact llenIs hF xs
  refine brkI (fun h => ?_) (fun h => ?_) <;> try cbv
  · have h := ltT hF h
    rw [ex] at h
    exact retB hr (hq.trans (by rw [itemsRight, decide_eq_false (p := 1 ≤ z.items.length) (by ((try simp only [Int.ofNat_eq_natCast] at *); omega))]; rfl))
  have h1 := ltF hF h
  rw [ex] at h1
  refine brkI (fun h => ?_) (fun h => ?_) <;> try cbv
  · have h := ltT hF h
    rw [ex] at h
    exact retB hr (hq.trans (by rw [itemsRight, decide_eq_false (p := z.items.length ≤ 10) (by ((try simp only [Int.ofNat_eq_natCast] at *); omega)), Bool.and_false]; rfl))
  have h2 := ltF hF h
  rw [ex] at h2
  refine loop_all (fun a st => st.n 3 (Int.ofNat a)) (itemAt z) z.items.length rfl (fun K' hK I i hi hp ih => ?_)
  cbv
  refine brkI (fun h => ?_) (fun h => ?_) <;> try cbv
  · have hs : i < z.items.length := hxl ▸ iltT hF h
    have e1 : pAdd .i64 (Int.ofNat i) 1 = Int.ofNat (i + 1) := add1Is hF (by omega)
    refine lgetM (fun u => [yN u.agg, yS u.col]) (fun u => by simp only [Itm.row, hM]) hx hs fun u hu => ?_
    cbv
    have hat : itemAt z i = (itemRight u.agg u.col && !(g && badCol z u)) := by rw [itemAt, getD_of hs hu, hgg]
    have hc := sCol_ok u.col (hu ▸ hib _ (List.getElem_mem hs)).1
    rw [itemRight, badCol] at hat
    obtain ⟨p, hp'⟩ : ∃ q, q = colName u.col := ⟨_, rfl⟩
    rw [← hp'] at hc hat
    repeat' (first
      | (refine callB hC hc (fun _ => ?_) (fun _ => ?_) <;> try cbv)
      | (refine callB hC (by have hh := hg; (try simp only [hM] at hh); exact hh) (fun _ => ?_) (fun _ => ?_) <;> try cbv)
      | (refine brkI (fun _ => ?_) (fun _ => ?_) <;> try cbv))
    all_goals first
      | (conv => arg 1; cbv
         rw [e1]
         refine ih _ hs (hat.trans ?_) rfl)
      | (refine hK _ _ ?_
         cbv
         refine retB hr (hq.trans (itemsRight_bad hs (hat.trans ?_))))
    all_goals
      clear hK ih hC hr hp hq hg hgg hx hxl hat hc hp' hib hB hM ex h1 h2
      have lD : ∀ a b, pLt a b = decide (a < b) := ltD hF
      have eD : ∀ a b, pLe a b = decide (a ≤ b) := leD hF
      have qD : ∀ a b, pEq a b = decide (a = b) := eqD hF
      have sD : ∀ a b, pSeq a b = decide (a = b) := seqD hF
      simp only [lD, eD, qD, sD, decide_eq_true_eq, decide_eq_false_iff_not] at *
      clear lD eD qD sD hF
      first | grind | (simp_all; done) | (simp_all; omega)
  · have hs : i = z.items.length := Nat.le_antisymm hi (hxl ▸ iltF hF h)
    have he : allTo (itemAt z) z.items.length = true := hs ▸ allTo_iff.2 hp
    refine hK _ _ ?_
    cbv
    exact retB hr (hq.trans (by rw [itemsRight, he, decide_eq_true (p := 1 ≤ z.items.length) (by ((try simp only [Int.ofNat_eq_natCast] at *); omega)), decide_eq_true (p := z.items.length ≤ 10) (by ((try simp only [Int.ofNat_eq_natCast] at *); omega))]; rfl))
end Go.Proofs.Ytcmgkfoppofniaa
