/- Functions of the program, each with what it returns, run by the evaluator; the conditions stand in the theorems. -/
import Derived.Test.YtcmgkfoppofniaaLNumP
import Derived.Test.YtcmgkfoppofniaaLSrc4
namespace Go.Proofs.Ytcmgkfoppofniaa
open Go Go.Proofs.YtcmgkfoppofniaaW Go.Proofs
set_option linter.unusedVariables false
set_option linter.unusedSimpArgs false
set_option maxRecDepth 100000
set_option maxHeartbeats 8000000
def xyB : ByteArray := ⟨⟨[120, 121]⟩⟩
def zB : ByteArray := ⟨⟨[122]⟩⟩
def xB : ByteArray := ⟨⟨[120]⟩⟩
theorem app_list (a b : ByteArray) : (a ++ b).data.toList = a.data.toList ++ b.data.toList := by simp
theorem ext_list (a : ByteArray) (i j : Nat) : (a.extract i j).data.toList = (a.data.toList.take j).drop i := by
  simp [List.drop_take, List.extract]
theorem size_list (a : ByteArray) : a.data.toList.length = a.size := rfl
theorem ba_ext {a b : ByteArray} (h : a.data.toList = b.data.toList) : a = b := by
  cases a with | mk x => cases b with | mk y => cases x with | mk l => cases y with | mk k => cases h; rfl
theorem num_back (n : Int) (hn : I64 n) : getNum (xyB ++ putNum n ++ zB) 2 = (n, Int.ofNat ((putNum n).size + 2), 0) := by
  have hz := putNum_size n hn
  have hs : (xyB ++ putNum n ++ zB).size = 2 + (putNum n).size + 1 := by rw [ByteArray.size_append, ByteArray.size_append]; rfl
  have ht : tooLong (xyB ++ putNum n ++ zB) = false := decide_eq_false (by rw [hs]; omega)
  rw [getNum, ite_f ht, show (2 : Int) = Int.ofNat 2 from rfl, numOf_put _ 2 n hn [120, 121] [122] (by rw [app_list, app_list]; rfl) rfl, Nat.add_comm]
theorem num_short (n : Int) (hn : I64 n) : getNum ((putNum n).extract 0 ((putNum n).size - 1)) 0 = (0, 0, 4) := by
  have hz := putNum_size n hn
  have ht : tooLong ((putNum n).extract 0 ((putNum n).size - 1)) = false := decide_eq_false (by rw [ByteArray.size_extract]; omega)
  rw [getNum, ite_f ht]
  refine numOf_cut _ n hn ?_
  rw [ext_list, List.drop_zero, List.dropLast_eq_take]; rfl
theorem putText_is {u : ByteArray} (h : u.size ≤ 20000) : putText u = putNum (Int.ofNat u.size) ++ u := by
  rw [putText, ite_f (show tooLong u = false from decide_eq_false (by omega))]; rfl
theorem i64n {n : Nat} (h : n ≤ 20000) : I64 (Int.ofNat n) := ⟨by ((try simp only [Int.ofNat_eq_natCast] at *); omega), by ((try simp only [Int.ofNat_eq_natCast] at *); omega)⟩
theorem text_back (u : ByteArray) (hu : u.size ≤ 20000) (hp : (putText u).size + 1 ≤ 20000) : getText (xB ++ putText u) 1 = (u, Int.ofNat ((putText u).size + 1), 0) := by
  rw [putText_is hu] at hp ⊢
  have hi := i64n hu
  have hz := putNum_size _ hi
  have hs : (xB ++ (putNum (Int.ofNat u.size) ++ u)).size = 1 + ((putNum (Int.ofNat u.size)).size + u.size) := by rw [ByteArray.size_append, ByteArray.size_append]; rfl
  rw [ByteArray.size_append] at hp ⊢
  have ht : tooLong (xB ++ (putNum (Int.ofNat u.size) ++ u)) = false := decide_eq_false (by rw [hs]; omega)
  have hn : numOf (xB ++ (putNum (Int.ofNat u.size) ++ u)) 1 = (Int.ofNat u.size, Int.ofNat (1 + (putNum (Int.ofNat u.size)).size), 0) :=
    numOf_put _ 1 _ hi [120] u.data.toList (by rw [app_list, app_list]; rfl) rfl
  rw [getText, ite_f ht, wordOf, hn]
  dsimp only
  rw [if_neg (by simp), if_neg (by ((try simp only [Int.ofNat_eq_natCast] at *); omega)), if_neg (by rw [hs]; ((try simp only [Int.ofNat_eq_natCast] at *); omega))]
  have e1 : (Int.ofNat (1 + (putNum (Int.ofNat u.size)).size)).toNat = 1 + (putNum (Int.ofNat u.size)).size := rfl
  have e2 : (Int.ofNat (1 + (putNum (Int.ofNat u.size)).size) + Int.ofNat u.size).toNat = 1 + (putNum (Int.ofNat u.size)).size + u.size := rfl
  rw [e1, e2]
  have e3 : (xB ++ (putNum (Int.ofNat u.size) ++ u)).extract (1 + (putNum (Int.ofNat u.size)).size) (1 + (putNum (Int.ofNat u.size)).size + u.size) = u := by
    refine ba_ext ?_
    rw [ext_list, app_list, app_list, ← List.append_assoc]
    have e4 : (xB.data.toList ++ (putNum (Int.ofNat u.size)).data.toList).length = 1 + (putNum (Int.ofNat u.size)).size := by rw [List.length_append]; rfl
    rw [← e4, List.take_of_length_le (by rw [List.length_append, size_list]; omega), List.drop_left]
  rw [e3]
  exact Prod.ext rfl (Prod.ext (by ((try simp only [Int.ofNat_eq_natCast] at *); omega)) rfl)
theorem text_short (u : ByteArray) (hu : u.size ≤ 20000) (hp : (putText u).size + 1 ≤ 20000) : getText ((putText u).extract 0 ((putText u).size - 1)) 0 = (⟨⟨[]⟩⟩, 0, 4) := by
  rw [putText_is hu] at hp ⊢
  have hi := i64n hu
  have hz := putNum_size _ hi
  have hz1 : 1 ≤ (putNum (Int.ofNat u.size)).size := putL_pos _
  rw [ByteArray.size_append] at hp ⊢
  have hs : ((putNum (Int.ofNat u.size) ++ u).extract 0 ((putNum (Int.ofNat u.size)).size + u.size - 1)).size = (putNum (Int.ofNat u.size)).size + u.size - 1 := by
    rw [ByteArray.size_extract, ByteArray.size_append]; omega
  have ht : tooLong ((putNum (Int.ofNat u.size) ++ u).extract 0 ((putNum (Int.ofNat u.size)).size + u.size - 1)) = false := decide_eq_false (by rw [hs]; omega)
  rw [getText, ite_f ht, wordOf]
  by_cases h0 : u.size = 0
  · have hc : numOf ((putNum (Int.ofNat u.size) ++ u).extract 0 ((putNum (Int.ofNat u.size)).size + u.size - 1)) 0 = (0, 0, 4) := by
      refine numOf_cut _ (Int.ofNat u.size) hi ?_
      have hu0 : u.data.toList = [] := List.eq_nil_of_length_eq_zero h0
      rw [ext_list, app_list, hu0, List.append_nil, List.drop_zero, List.dropLast_eq_take, h0]
      rfl
    rw [hc]
    exact if_pos (by decide)
  · have hn : numOf ((putNum (Int.ofNat u.size) ++ u).extract 0 ((putNum (Int.ofNat u.size)).size + u.size - 1)) 0 = (Int.ofNat u.size, Int.ofNat (0 + (putNum (Int.ofNat u.size)).size), 0) := by
      refine numOf_put _ 0 _ hi [] (u.data.toList.take (u.size - 1)) ?_ rfl
      rw [ext_list, app_list, List.drop_zero, List.nil_append, List.take_append]
      have e : (putNum (Int.ofNat u.size)).data.toList.length = (putNum (Int.ofNat u.size)).size := rfl
      rw [List.take_of_length_le (by rw [e]; omega), e, show (putNum (Int.ofNat u.size)).size + u.size - 1 - (putNum (Int.ofNat u.size)).size = u.size - 1 by omega]
      rfl
    rw [hn]
    dsimp only
    rw [if_neg (by simp), if_neg (by ((try simp only [Int.ofNat_eq_natCast] at *); omega)), if_pos (by rw [hs]; ((try simp only [Int.ofNat_eq_natCast] at *); omega))]
theorem lawNums_ok (code more : List UInt8) : CallOK Try.prog 3 [.c (.y (.sl 1 (bytesL code))), .c (.y (.sl 1 (bytesL more)))] (B true) := by
  obtain ⟨xs, hx⟩ : ∃ xs, xs = bytesL code := ⟨_, rfl⟩
  obtain ⟨ys, hy⟩ : ∃ xs, xs = bytesL more := ⟨_, rfl⟩
  have hxl : xs.length = code.length := by rw [hx, bytesL, List.length_map]
  have hyl : ys.length = more.length := by rw [hy, bytesL, List.length_map]
  have d1 := drawPutNum_ok code
  have d2 := drawPutText_ok more
  rw [← hx] at d1
  rw [← hy] at d2
  rw [← hx, ← hy]
  obtain ⟨M, hM⟩ := mapEx
  try simp only [hM]
  refine go Try.func3 rfl rfl rfl rfl fun pAdd pSub pMul pQuo pRem pAnd pOr pXor pAndNot pShl pShr pNeg pCompl pConv pLt pLe pEq pSlt pSle pSeq pCat pCatOk pSlen pSsub pSat pIadd pIsub pBnot pBeq pImin pImax pLlen pLsub pLapp pLset pLcopy pLenOk pBytes pRep hF Ca hC r hr => ?_
  cbv
  refine brkI (fun h => ?_) (fun h => ?_) <;> try cbv
  · exact hr.symm
  have h := ltF hF h
  rw [show pLlen xs = Int.ofNat code.length from (llenIs hF _).trans (by rw [hxl]; rfl)] at h
  refine brkI (fun h2 => ?_) (fun h2 => ?_) <;> try cbv
  · exact hr.symm
  have h2 := ltF hF h2
  rw [show pLlen ys = Int.ofNat more.length from (llenIs hF _).trans (by rw [hyl]; rfl)] at h2
  obtain ⟨n, hn, c1⟩ := d1 (by ((try simp only [Int.ofNat_eq_natCast] at *); omega))
  obtain ⟨u, hu, c2⟩ := d2 (by ((try simp only [Int.ofNat_eq_natCast] at *); omega))
  have nb := num_back n hn
  have ns := num_short n hn
  have nz := putNum_size n hn
  have nz1 : 1 ≤ (putNum n).size := putL_pos _
  have c3 := iPutNum_ok n hn
  have c4 := sPutNum_ok n hn
  obtain ⟨t, ht⟩ : ∃ t, t = putNum n := ⟨_, rfl⟩
  rw [← ht] at nb ns nz nz1 c3 c4
  clear ht
  have w1 : ∃ w, w = xyB ++ t ++ zB := ⟨_, rfl⟩
  obtain ⟨w, hw⟩ := w1
  have c5 := iGetNum_ok w 2 (by rw [maxLen_is, hw, ByteArray.size_append, ByteArray.size_append]; show 2 + t.size + 1 ≤ _; omega) ⟨by decide, by decide⟩
  rw [hw, nb, ← hw] at c5
  obtain ⟨t2, ht2⟩ : ∃ x, x = Int.ofNat (t.size + 2) := ⟨_, rfl⟩
  rw [← ht2] at c5
  obtain ⟨t1, ht1⟩ : ∃ x, x = t.extract 0 (t.size - 1) := ⟨_, rfl⟩
  have c6 := iGetNum_ok t1 0 (by rw [maxLen_is, ht1, ByteArray.size_extract]; omega) ⟨by decide, by decide⟩
  rw [ht1, ns, ← ht1] at c6
  have c7 := iPutText_ok u
  have c8 := sPutText_ok u
  have tb : u.size ≤ 20000 → (putText u).size + 1 ≤ 20000 → CallOK Try.prog 21 [aS (xB ++ putText u), aN 1] (TX (u, Int.ofNat ((putText u).size + 1), 0)) := fun h1 h2 => by
    have := iGetText_ok (xB ++ putText u) 1 (by rw [ByteArray.size_append]; show 1 + _ ≤ _; omega) ⟨by decide, by decide⟩
    rw [text_back u h1 h2] at this; exact this
  have ts : u.size ≤ 20000 → (putText u).size + 1 ≤ 20000 → CallOK Try.prog 21 [aS ((putText u).extract 0 ((putText u).size - 1)), aN 0] (TX (⟨⟨[]⟩⟩, 0, 4)) := fun h1 h2 => by
    have := iGetText_ok ((putText u).extract 0 ((putText u).size - 1)) 0 (by rw [ByteArray.size_extract]; omega) ⟨by decide, by decide⟩
    rw [text_short u h1 h2] at this; exact this
  have pz : putText u = ⟨⟨[]⟩⟩ ∨ u.size ≤ 20000 ∧ 1 ≤ (putText u).size ∧ (putText u).size ≤ 30000 := by
    by_cases hh : u.size ≤ 20000
    · right
      rw [putText_is hh, ByteArray.size_append]
      have := putL_pos (foldOf (Int.ofNat u.size)).toNat
      have h3 := putNum_size _ (i64n hh)
      have : 1 ≤ (putNum (Int.ofNat u.size)).size := this
      exact ⟨hh, by omega, by omega⟩
    · left
      rw [putText, ite_t (show tooLong u = true from decide_eq_true (by omega))]
  obtain ⟨p, hp⟩ : ∃ p, p = putText u := ⟨_, rfl⟩
  rw [← hp] at c7 c8 tb ts pz
  obtain ⟨p1, hp1⟩ : ∃ x, x = p.extract 0 (p.size - 1) := ⟨_, rfl⟩
  obtain ⟨p2, hp2⟩ : ∃ x, x = Int.ofNat (p.size + 1) := ⟨_, rfl⟩
  obtain ⟨p3, hp3⟩ : ∃ x, x = xB ++ p := ⟨_, rfl⟩
  rw [← hp2, ← hp3] at tb
  rw [← hp1] at ts
  clear hp
  have et2 : prims.add .i64 (Int.ofNat t.size) 2 = Int.ofNat (t.size + 2) := (wrap_i64 (by ((try simp only [Int.ofNat_eq_natCast] at *); omega)) (by ((try simp only [Int.ofNat_eq_natCast] at *); omega)))
  rw [hF] at et2
  refine callI hC c1 ?_
  cbv
  refine callI hC c3 ?_
  cbv
  refine callI hC c4 ?_
  cbv
  have esl : ∀ s, pSlen s = Int.ofNat s.size := fun s => slenIs hF s
  have ecat : ∀ a b, pCat a b = a ++ b := fun a b => catIs hF a b
  have elt := esl t
  refine brT (mkSeq hF rfl) ?_
  try cbv
  rw [elt]
  refine brF (mkNlt hF (by ((try simp only [Int.ofNat_eq_natCast] at *); omega))) ?_
  try cbv
  rw [elt]
  refine brF (mkNlt hF (by ((try simp only [Int.ofNat_eq_natCast] at *); omega))) ?_
  try cbv
  refine brT (catOkIs hF (by show 2 + t.size ≤ _; omega)) ?_
  try cbv
  refine brT (catOkIs hF (by rw [ecat, ByteArray.size_append]; show 2 + t.size + 1 ≤ _; omega)) ?_
  try cbv
  have ew : pCat (pCat xyB t) zB = w := by
    rw [hw]
    have : prims.cat (prims.cat xyB t) zB = xyB ++ t ++ zB := rfl
    rw [hF] at this; exact this
  rw [show pCat (pCat ⟨⟨[120, 121]⟩⟩ t) ⟨⟨[122]⟩⟩ = w from ew]
  refine callI hC c5 ?_
  cbv
  refine brT (mkEq hF rfl) ?_
  try cbv
  rw [show pAdd .i64 (pSlen t) 2 = t2 from by rw [elt, ht2]; exact et2]
  refine brT (mkEq hF rfl) ?_
  try cbv
  refine brT (mkEq hF rfl) ?_
  try cbv
  rw [show pSub .i64 (pSlen t) 1 = Int.ofNat (t.size - 1) from by rw [elt]; exact (subIs hF (by ((try simp only [Int.ofNat_eq_natCast] at *); omega)) (by ((try simp only [Int.ofNat_eq_natCast] at *); omega))).trans (by ((try simp only [Int.ofNat_eq_natCast] at *); omega))]
  refine brT (zeroLe hF _) ?_
  try cbv
  rw [elt]
  refine brT (mkLe hF (by ((try simp only [Int.ofNat_eq_natCast] at *); omega))) ?_
  try cbv
  have ess : ∀ (s : ByteArray) (k : Nat), pSsub s 0 (Int.ofNat k) = s.extract 0 k := fun s k => by
    have : prims.ssub s 0 (Int.ofNat k) = s.extract 0 k := rfl
    rw [hF] at this; exact this
  rw [ess, ← ht1]
  refine callI hC c6 ?_
  cbv
  refine brT (mkEq hF rfl) ?_
  try cbv
  refine callI hC c2 ?_
  cbv
  refine callI hC c7 ?_
  cbv
  refine callI hC c8 ?_
  cbv
  refine brT (mkSeq hF rfl) ?_
  try cbv
  refine brkI (fun h3 => ?_) (fun h3 => ?_) <;> try cbv
  · refine callI hC c8 ?_
    cbv
    refine brT (mkSeq hF rfl) ?_
    try cbv
    exact hr.symm
  have h3 := seqF hF h3
  obtain ⟨hu2, hp0, hpt⟩ := pz.resolve_left h3
  rw [esl p]
  have e1 : pAdd .i64 (Int.ofNat p.size) 1 = p2 := by rw [hp2]; exact add1Is hF (by omega)
  rw [e1]
  refine brkI (fun h4 => ?_) (fun h4 => ?_) <;> try cbv
  · exact hr.symm
  have h4 := ltF hF h4
  have hps : p.size + 1 ≤ 20000 := by rw [hp2] at h4; ((try simp only [Int.ofNat_eq_natCast] at *); omega)
  have tb := tb hu2 hps
  have ts := ts hu2 hps
  refine brT (catOkIs hF (by show 1 + p.size ≤ _; omega)) ?_
  try cbv
  rw [show pCat ⟨⟨[120]⟩⟩ p = p3 from by rw [ecat, hp3]; rfl]
  refine callI hC tb ?_
  cbv
  refine brT (mkSeq hF rfl) ?_
  try cbv
  rw [esl p]
  try rw [e1]
  refine brT (mkEq hF rfl) ?_
  try cbv
  refine brT (mkEq hF rfl) ?_
  try cbv
  rw [esl p]
  rw [show pSub .i64 (Int.ofNat p.size) 1 = Int.ofNat (p.size - 1) from (subIs hF (by ((try simp only [Int.ofNat_eq_natCast] at *); omega)) (by ((try simp only [Int.ofNat_eq_natCast] at *); omega))).trans (by ((try simp only [Int.ofNat_eq_natCast] at *); omega))]
  refine brT (zeroLe hF _) ?_
  try cbv
  refine brT (mkLe hF (by ((try simp only [Int.ofNat_eq_natCast] at *); omega))) ?_
  try cbv
  rw [ess, ← hp1]
  refine callI hC ts ?_
  cbv
  refine brT (mkEq hF rfl) ?_
  try cbv
  exact hr.symm
end Go.Proofs.Ytcmgkfoppofniaa
