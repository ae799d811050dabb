/- Functions of the program, each with what it returns, run by the evaluator; the conditions stand in the theorems. -/
import Derived.Test.YtcmgkfoppofniaaLQry5
namespace Go.Proofs.Ytcmgkfoppofniaa
open Go Go.Proofs.YtcmgkfoppofniaaW Go.Proofs
set_option linter.unusedVariables false
set_option linter.unusedSimpArgs false
set_option maxRecDepth 100000
set_option maxHeartbeats 8000000
def termAt (z : Qry) (i : Nat) : Bool := termRight (z.where_.getD i default).col (z.where_.getD i default).op (z.where_.getD i default).val.k (z.where_.getD i default).val.n (z.where_.getD i default).val.s
def itemOk (z : Qry) (i : Nat) : Bool := itemRight (z.items.getD i default).agg (z.items.getD i default).col
def otherOk (z : Qry) (i : Nat) : Bool := !badCol z (z.items.getD i default)
def qForm (I N nj cl cr cg co g T down : Bool) (wl : Nat) (lim : Int) (join lft rgt table group order : ByteArray) : Bool :=
  (I && (N && (decide (wl ≤ 20) && (decide (-1 ≤ lim) && decide (lim ≤ 1000))))) &&
  ((if join = ⟨⟨[]⟩⟩ then decide (lft = ⟨⟨[]⟩⟩) && decide (rgt = ⟨⟨[]⟩⟩) else nj && (!decide (join = table) && (cl && cr))) &&
  (T && (((decide (group = ⟨⟨[]⟩⟩) || cg) && ((decide (order = ⟨⟨[]⟩⟩) || co) && !(down && decide (order = ⟨⟨[]⟩⟩)))) &&
  (!g || (decide (order = ⟨⟨[]⟩⟩) || decide (order = group))))))
def qRight (z : Qry) : Bool := qForm (itemsRight z) (nameRight z.table) (nameRight z.join) (colName z.lft) (colName z.rgt) (colName z.group) (colName z.order) (grouped z) (allTo (termAt z) z.where_.length) z.down z.where_.length z.limit z.join z.lft z.rgt z.table z.group z.order
theorem itemsRight_is (z : Qry) : itemsRight z = ((decide (1 ≤ z.items.length) && decide (z.items.length ≤ 10)) && (allTo (itemOk z) z.items.length && (!grouped z || allTo (otherOk z) z.items.length))) := by
  rw [itemsRight]
  congr 1
  cases hg : grouped z with
  | false =>
    rw [show (!false || allTo (otherOk z) z.items.length) = true from rfl, Bool.and_true]
    exact allTo_congr fun j hj => by rw [itemAt, hg, itemOk]; simp
  | true =>
    rw [show (!true || allTo (otherOk z) z.items.length) = allTo (otherOk z) z.items.length from rfl, Bool.eq_iff_iff, Bool.and_eq_true, allTo_iff, allTo_iff, allTo_iff]
    have e : ∀ j, itemAt z j = (itemOk z j && otherOk z j) := fun j => by rw [itemAt, hg, itemOk, otherOk]; simp
    constructor
    · intro h
      refine ⟨fun j hj => ?_, fun j hj => ?_⟩
      · have := h j hj; rw [e, Bool.and_eq_true] at this; exact this.1
      · have := h j hj; rw [e, Bool.and_eq_true] at this; exact this.2
    · intro h j hj
      rw [e, h.1 j hj, h.2 j hj]; rfl
theorem sQueryRight_ok (z : Qry) (hB : Qry.Bd 1048576 z) : CallOK Try.prog 65 [.agg [.y (.sl 2 (z.items.map Itm.row)), .y (yS z.table), .y (yS z.join), .y (yS z.lft), .y (yS z.rgt), .y (.sl 5 (z.where_.map Trm.row)), .y (yS z.group), .y (yS z.order), .y (yB z.down), .y (yN z.limit)]] (B (qRight z)) := by
  have big : ∀ {n : Nat}, n ≤ 1048576 → n ≤ maxLen := fun h => Nat.le_trans h (by decide)
  have hI := sItems_ok z hB
  have hN := sNameRight_ok z.table (big hB.2.1)
  have hnj := sNameRight_ok z.join (big hB.2.2.1)
  have hcl := sCol_ok z.lft hB.2.2.2.1
  have hcr := sCol_ok z.rgt hB.2.2.2.2.1
  have hcg := sCol_ok z.group hB.2.2.2.2.2.2.1
  have hco := sCol_ok z.order hB.2.2.2.2.2.2.2.1
  have hg := sGrouped_ok z (big hB.1.1)
  have hwl := hB.2.2.2.2.2.1.1
  have hwb := hB.2.2.2.2.2.1.2
  have hT1 : ∀ {i}, i < z.where_.length → termAt z i = false → allTo (termAt z) z.where_.length = false := fun h h2 => allTo_false h h2
  have hT2 : (∀ i, i < z.where_.length → termAt z i = true) → allTo (termAt z) z.where_.length = true := fun h => allTo_iff.2 h
  obtain ⟨q, hq⟩ : ∃ q, q = qRight z := ⟨_, rfl⟩
  rw [← hq]
  rw [qRight] at hq
  obtain ⟨I', eI⟩ : ∃ q, q = itemsRight z := ⟨_, rfl⟩
  obtain ⟨N', eN⟩ : ∃ q, q = nameRight z.table := ⟨_, rfl⟩
  obtain ⟨nj, enj⟩ : ∃ q, q = nameRight z.join := ⟨_, rfl⟩
  obtain ⟨cl, ecl⟩ : ∃ q, q = colName z.lft := ⟨_, rfl⟩
  obtain ⟨cr, ecr⟩ : ∃ q, q = colName z.rgt := ⟨_, rfl⟩
  obtain ⟨cg, ecg⟩ : ∃ q, q = colName z.group := ⟨_, rfl⟩
  obtain ⟨co, eco⟩ : ∃ q, q = colName z.order := ⟨_, rfl⟩
  obtain ⟨g, eg⟩ : ∃ q, q = grouped z := ⟨_, rfl⟩
  obtain ⟨T, eT⟩ : ∃ q, q = allTo (termAt z) z.where_.length := ⟨_, rfl⟩
  rw [← eI] at hI hq
  rw [← eN] at hN hq
  rw [← enj] at hnj hq
  rw [← ecl] at hcl hq
  rw [← ecr] at hcr hq
  rw [← ecg] at hcg hq
  rw [← eco] at hco hq
  rw [← eg] at hg hq
  rw [← eT] at hT1 hT2 hq
  clear eI eN enj ecl ecr ecg eco eg eT
  obtain ⟨is, his⟩ : ∃ xs, xs = z.items.map Itm.row := ⟨_, rfl⟩
  obtain ⟨xs, hx⟩ : ∃ xs, xs = z.where_.map Trm.row := ⟨_, rfl⟩
  have hxl : xs.length = z.where_.length := by rw [hx, List.length_map]
  rw [← his, ← hx] at hI hg ⊢
  clear his
  clear hB big
  obtain ⟨M, hM⟩ := mapEx
  try simp only [hM]
  refine go Try.func65 rfl rfl rfl rfl fun pAdd pSub pMul pQuo pRem pAnd pOr pXor pAndNot pShl pShr pNeg pCompl pConv pLt pLe pEq pSlt pSle pSeq pCat pCatOk pSlen pSsub pSat pIadd pIsub pBnot pBeq pImin pImax pLlen pLsub pLapp pLset pLcopy pLenOk pBytes pRep hF Ca hC r hr => ?_
  cbv
  have ex : pLlen xs = Int.ofNat z.where_.length := by rw [← hxl]; exact llenIs hF xs
  repeat' (first
    | (refine brT (by assumption) ?_; try cbv)
    | (refine brF (by assumption) ?_; try cbv)
    | (refine callB hC hI (fun _ => ?_) (fun _ => ?_) <;> try cbv)
    | (refine callB hC hN (fun _ => ?_) (fun _ => ?_) <;> try cbv)
    | (refine callB hC hnj (fun _ => ?_) (fun _ => ?_) <;> try cbv)
    | (refine callB hC hcl (fun _ => ?_) (fun _ => ?_) <;> try cbv)
    | (refine callB hC hcr (fun _ => ?_) (fun _ => ?_) <;> try cbv)
    | (refine brkI (fun _ => ?_) (fun _ => ?_) <;> try cbv))
  all_goals first
    | (refine retB hr (hq.trans ?_)
       clear hC hr hq hI hN hnj hcl hcr hcg hco hg hT1 hT2 hwb hx hxl hM
       have lD : ∀ a b, pLt a b = decide (a < b) := ltD hF
       have eD : ∀ a b, pLe a b = decide (a ≤ b) := leD hF
       have qD : ∀ a b, pEq a b = decide (a = b) := eqD hF
       have sD : ∀ a b, pSeq a b = decide (a = b) := seqD hF
       (try simp only [lD, eD, qD, sD, ex, decide_eq_true_eq, decide_eq_false_iff_not] at *)
       clear lD eD qD sD hF ex
       unfold qForm
       (try simp only [show ∀ n : Nat, Int.ofNat n = (n : Int) from fun _ => rfl] at *)
       grind)
    | (refine loop_all (fun a st => st.n 3 (Int.ofNat a)) (termAt z) z.where_.length (by rfl) (fun K' hK I i hi hp ih => ?_)
       cbv
       refine brkI (fun h => ?_) (fun h => ?_) <;> try cbv
       · have hs : i < z.where_.length := hxl ▸ iltT hF h
         have e1 : pAdd .i64 (Int.ofNat i) 1 = Int.ofNat (i + 1) := add1Is hF (by omega)
         refine lgetM (fun u => [yS u.col, yS u.op, yN u.val.k, yN u.val.n, yS u.val.s]) (fun u => by simp only [Trm.row, hM]) hx hs fun u hu => ?_
         cbv
         have hat : termAt z i = termRight u.col u.op u.val.k u.val.n u.val.s := by rw [termAt, getD_of hs hu]
         have hub := hwb _ (List.getElem_mem hs)
         rw [← hu] at hub
         refine callB hC (sTerm_ok u.col u.op u.val.k u.val.n u.val.s hub.1 (Nat.le_trans hub.2.2.1.1 (by decide))) (fun h1 => ?_) (fun h1 => ?_) <;> try cbv
         · conv => arg 1; cbv
           rw [e1]
           exact ih _ hs (hat.trans h1) rfl
         · have hT := hT1 hs (hat.trans h1)
           refine hK _ _ ?_
           cbv
           refine retB hr (hq.trans ?_)
           clear ih hK hp h1 hat hub hu
           clear hC hr hq hI hN hnj hcl hcr hcg hco hg hT1 hT2 hwb hx hxl hM
           have lD : ∀ a b, pLt a b = decide (a < b) := ltD hF
           have eD : ∀ a b, pLe a b = decide (a ≤ b) := leD hF
           have qD : ∀ a b, pEq a b = decide (a = b) := eqD hF
           have sD : ∀ a b, pSeq a b = decide (a = b) := seqD hF
           (try simp only [lD, eD, qD, sD, ex, decide_eq_true_eq, decide_eq_false_iff_not] at *)
           clear lD eD qD sD hF ex
           unfold qForm
           (try simp only [show ∀ n : Nat, Int.ofNat n = (n : Int) from fun _ => rfl] at *)
           grind
       · have hs : i = z.where_.length := Nat.le_antisymm hi (hxl ▸ iltF hF h)
         have hT := hT2 (fun j hj => hp j (hs ▸ hj))
         refine hK _ _ ?_
         clear ih hK hp hs h hi
         cbv
         repeat' (first
           | (refine brT (by assumption) ?_; try cbv)
           | (refine brF (by assumption) ?_; try cbv)
           | (refine callB hC hcg (fun _ => ?_) (fun _ => ?_) <;> try cbv)
           | (refine callB hC hco (fun _ => ?_) (fun _ => ?_) <;> try cbv)
           | (refine callB hC hg (fun _ => ?_) (fun _ => ?_) <;> try cbv)
           | (refine brkI (fun _ => ?_) (fun _ => ?_) <;> try cbv))
         all_goals
           refine retB hr (hq.trans ?_)
           clear hC hr hq hI hN hnj hcl hcr hcg hco hg hT1 hT2 hwb hx hxl hM
           have lD : ∀ a b, pLt a b = decide (a < b) := ltD hF
           have eD : ∀ a b, pLe a b = decide (a ≤ b) := leD hF
           have qD : ∀ a b, pEq a b = decide (a = b) := eqD hF
           have sD : ∀ a b, pSeq a b = decide (a = b) := seqD hF
           (try simp only [lD, eD, qD, sD, ex, decide_eq_true_eq, decide_eq_false_iff_not] at *)
           clear lD eD qD sD hF ex
           unfold qForm
           (try simp only [show ∀ n : Nat, Int.ofNat n = (n : Int) from fun _ => rfl] at *)
           grind)
theorem cat_empty {a b : ByteArray} : a ++ b = ⟨⟨[]⟩⟩ ↔ a = ⟨⟨[]⟩⟩ ∧ b = ⟨⟨[]⟩⟩ := by
  have e : ∀ c : ByteArray, c = ⟨⟨[]⟩⟩ ↔ c.size = 0 := fun c => ⟨fun h => by rw [h]; rfl, fun h => by
    cases c with | mk d => cases d with | mk l => simp [ByteArray.size] at h; rw [h]⟩
  rw [e, e, e, ByteArray.size_append]; omega
theorem iQueryRight_ok (z : Qry) (hB : Qry.Bd 1048576 z) : CallOK Try.prog 67 [.agg [.y (.sl 2 (z.items.map Itm.row)), .y (yS z.table), .y (yS z.join), .y (yS z.lft), .y (yS z.rgt), .y (.sl 5 (z.where_.map Trm.row)), .y (yS z.group), .y (yS z.order), .y (yB z.down), .y (yN z.limit)]] (B (qRight z)) := by
  have big : ∀ {n : Nat}, n ≤ 1048576 → n ≤ maxLen := fun h => Nat.le_trans h (by decide)
  have hI := notItem_cf z.items (big hB.1.1) (fun u hu => big (hB.1.2 u hu).1)
  have hO := other_cf z z.items (big hB.1.1)
  have hT := notTerm_cf z.where_ (big hB.2.2.2.2.2.1.1) (fun u hu => ⟨big (hB.2.2.2.2.2.1.2 u hu).1, big (hB.2.2.2.2.2.1.2 u hu).2.2.1.1⟩)
  rw [show allTo (fun i => !(fun u : Itm => !itemRight u.agg u.col) (z.items.getD i default)) z.items.length = allTo (itemOk z) z.items.length from allTo_congr fun j hj => Bool.not_not _] at hI
  rw [show allTo (fun i => !(fun u : Itm => decide (u.agg = 0) && !decide (u.col = z.group)) (z.items.getD i default)) z.items.length = allTo (otherOk z) z.items.length from rfl] at hO
  rw [show allTo (fun i => !(fun u : Trm => !termRight u.col u.op u.val.k u.val.n u.val.s) (z.where_.getD i default)) z.where_.length = allTo (termAt z) z.where_.length from allTo_congr fun j hj => Bool.not_not _] at hT
  have hN := iNameRight_ok z.table (big hB.2.1)
  have hnj := iNameRight_ok z.join (big hB.2.2.1)
  have hcl := iCol_ok z.lft (big hB.2.2.2.1)
  have hcr := iCol_ok z.rgt (big hB.2.2.2.2.1)
  have hcg := iCol_ok z.group (big hB.2.2.2.2.2.2.1)
  have hco := iCol_ok z.order (big hB.2.2.2.2.2.2.2.1)
  have hg := iGrouped_ok z (big hB.1.1)
  have hls := hB.2.2.2.1
  have hrs := hB.2.2.2.2.1
  have hce := cat_empty (a := z.lft) (b := z.rgt)
  obtain ⟨q, hq⟩ : ∃ q, q = qRight z := ⟨_, rfl⟩
  rw [← hq]
  rw [qRight, itemsRight_is] at hq
  obtain ⟨I', eI⟩ : ∃ q, q = allTo (itemOk z) z.items.length := ⟨_, rfl⟩
  obtain ⟨O, eO⟩ : ∃ q, q = allTo (otherOk z) z.items.length := ⟨_, rfl⟩
  obtain ⟨N', eN⟩ : ∃ q, q = nameRight z.table := ⟨_, rfl⟩
  obtain ⟨nj, enj⟩ : ∃ q, q = nameRight z.join := ⟨_, rfl⟩
  obtain ⟨cl, ecl⟩ : ∃ q, q = colName z.lft := ⟨_, rfl⟩
  obtain ⟨cr, ecr⟩ : ∃ q, q = colName z.rgt := ⟨_, rfl⟩
  obtain ⟨cg, ecg⟩ : ∃ q, q = colName z.group := ⟨_, rfl⟩
  obtain ⟨co, eco⟩ : ∃ q, q = colName z.order := ⟨_, rfl⟩
  obtain ⟨g, eg⟩ : ∃ q, q = grouped z := ⟨_, rfl⟩
  obtain ⟨T, eT⟩ : ∃ q, q = allTo (termAt z) z.where_.length := ⟨_, rfl⟩
  rw [← eI] at hI hq
  rw [← eO] at hO hq
  rw [← eN] at hN hq
  rw [← enj] at hnj hq
  rw [← ecl] at hcl hq
  rw [← ecr] at hcr hq
  rw [← ecg] at hcg hq
  rw [← eco] at hco hq
  rw [← eg] at hg hq
  rw [← eT] at hT hq
  clear eI eO eN enj ecl ecr ecg eco eg eT
  obtain ⟨is, his⟩ : ∃ xs, xs = z.items.map Itm.row := ⟨_, rfl⟩
  have hisl : is.length = z.items.length := by rw [his, List.length_map]
  obtain ⟨xs, hx⟩ : ∃ xs, xs = z.where_.map Trm.row := ⟨_, rfl⟩
  have hxl : xs.length = z.where_.length := by rw [hx, List.length_map]
  rw [← his] at hI
  rw [← hx] at hT
  rw [← his, ← hx] at hO hg ⊢
  obtain ⟨n, hn⟩ : ∃ n, n = prims.llen is := ⟨_, rfl⟩
  have hn' : n = Int.ofNat z.items.length := by rw [hn, ← hisl]; rfl
  have hW := within_ok n 1 10
  have hL := within_ok z.limit (-1) 1000
  clear his hx
  clear hB big
  obtain ⟨M, hM⟩ := mapEx
  try simp only [hM]
  refine go Try.func67 rfl rfl rfl rfl fun pAdd pSub pMul pQuo pRem pAnd pOr pXor pAndNot pShl pShr pNeg pCompl pConv pLt pLe pEq pSlt pSle pSeq pCat pCatOk pSlen pSsub pSat pIadd pIsub pBnot pBeq pImin pImax pLlen pLsub pLapp pLset pLcopy pLenOk pBytes pRep hF Ca hC r hr => ?_
  cbv
  have hn2 : pLlen is = n := by rw [hn, hF]
  have ex : pLlen xs = Int.ofNat z.where_.length := by rw [← hxl]; exact llenIs hF xs
  have ec : pCat z.lft z.rgt = z.lft ++ z.rgt := catIs hF _ _
  have hcat : pCatOk z.lft z.rgt = true := catOkIs hF (by omega)
  rw [hn2]
  repeat' (first
    | (refine brT (by assumption) ?_; try cbv)
    | (refine brF (by assumption) ?_; try cbv)
    | (refine callB hC hW (fun _ => ?_) (fun _ => ?_) <;> try cbv)
    | (refine callB hC (by have hh := hI; (try simp only [hM] at hh); exact hh) (fun _ => ?_) (fun _ => ?_) <;> try cbv)
    | (refine callB hC hN (fun _ => ?_) (fun _ => ?_) <;> try cbv)
    | (refine callB hC hnj (fun _ => ?_) (fun _ => ?_) <;> try cbv)
    | (refine callB hC hcl (fun _ => ?_) (fun _ => ?_) <;> try cbv)
    | (refine callB hC hcr (fun _ => ?_) (fun _ => ?_) <;> try cbv)
    | (refine callB hC hT (fun _ => ?_) (fun _ => ?_) <;> try cbv)
    | (refine callB hC hcg (fun _ => ?_) (fun _ => ?_) <;> try cbv)
    | (refine callB hC hco (fun _ => ?_) (fun _ => ?_) <;> try cbv)
    | (refine callB hC hL (fun _ => ?_) (fun _ => ?_) <;> try cbv)
    | (refine callB hC hg (fun _ => ?_) (fun _ => ?_) <;> try cbv)
    | (refine callB hC hO (fun _ => ?_) (fun _ => ?_) <;> try cbv)
    | (refine brkI (fun _ => ?_) (fun _ => ?_) <;> try cbv))
  all_goals
    first | (refine retB hr (hq.trans ?_)) | (trace_state; exfalso)
    clear hC hr hq hI hO hN hnj hcl hcr hcg hco hg hT hW hL hxl hisl hls hrs hM hn2 hn hcat
    have lD : ∀ a b, pLt a b = decide (a < b) := ltD hF
    have eD : ∀ a b, pLe a b = decide (a ≤ b) := leD hF
    have qD : ∀ a b, pEq a b = decide (a = b) := eqD hF
    have sD : ∀ a b, pSeq a b = decide (a = b) := seqD hF
    (try simp only [lD, eD, qD, sD, ex, ec, hce, hn', decide_eq_true_eq, decide_eq_false_iff_not] at *)
    clear lD eD qD sD hF ex ec hce
    unfold qForm
    (try simp only [show ∀ n : Nat, Int.ofNat n = (n : Int) from fun _ => rfl] at *)
    grind
end Go.Proofs.Ytcmgkfoppofniaa
