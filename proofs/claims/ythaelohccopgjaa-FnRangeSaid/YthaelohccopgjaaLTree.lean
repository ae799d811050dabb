/- Functions of the program, each with what it returns, run by the evaluator; the conditions stand in the theorems. -/
import Derived.Test.YthaelohccopgjaaLTy
namespace Go.Proofs.Ythaelohccopgjaa
open Go Go.Proofs.YthaelohccopgjaaW Go.Proofs
set_option linter.unusedVariables false
set_option linter.unusedSimpArgs false
set_option maxRecDepth 100000
set_option maxHeartbeats 8000000
structure Tr where
  keys : List ByteArray
  vals : List ByteArray
  kids : List Tr
  deriving Inhabited
def Tr.row (t : Tr) : List Y := match t with
  | ⟨k, v, c⟩ => [(.sl 1 (k.map rowS)), (.sl 1 (v.map rowS)), (.sl 3 (c.map fun t => Tr.row t))]
theorem Tr.row_eq (t : Tr) : t.row = [(.sl 1 (t.keys.map rowS)), (.sl 1 (t.vals.map rowS)), (.sl 3 (t.kids.map Tr.row))] := by
  obtain ⟨k, v, c⟩ := t
  rw [Tr.row]
/-- How many levels at most. -/
def Tr.Le : Nat → Tr → Prop
  | 0, _ => False
  | n + 1, t => ∀ c ∈ t.kids, Tr.Le n c
theorem Tr.Le.up : ∀ {n m : Nat} {t : Tr}, n ≤ m → Tr.Le n t → Tr.Le m t
  | 0, _, _, _, h => h.elim
  | n + 1, 0, _, h, _ => absurd h (by omega)
  | n + 1, m + 1, _, h, hl => fun c hc => Tr.Le.up (by omega) (hl c hc)
theorem Tr.le_max {l : List Tr} (h : ∀ c ∈ l, ∃ n, Tr.Le n c) : ∃ n, ∀ c ∈ l, Tr.Le n c := by
  induction l with
  | nil => exact ⟨0, fun c hc => by simp at hc⟩
  | cons a l ih =>
    obtain ⟨n, hn⟩ := ih fun c hc => h c (.tail _ hc)
    obtain ⟨m, hm⟩ := h a (.head _)
    refine ⟨max n m, fun c hc => ?_⟩
    rcases List.mem_cons.1 hc with rfl | hc
    · exact hm.up (Nat.le_max_right ..)
    · exact (hn c hc).up (Nat.le_max_left ..)
theorem Tr.le_ex (t : Tr) : ∃ n, Tr.Le n t := match t with
  | ⟨k, v, c⟩ =>
    let ⟨n, hn⟩ := Tr.le_max (l := c) fun x hx => Tr.le_ex x
    ⟨n + 1, hn⟩
termination_by SizeOf.sizeOf t
decreasing_by
  have := List.sizeOf_lt_of_mem hx
  simp_wf
  omega
inductive Tr.Bd (M : Nat) : Tr → Prop where
  | mk (t : Tr) (h1 : t.keys.length ≤ M) (h2 : ∀ u ∈ t.keys, u.size ≤ M) (h3 : t.vals.length ≤ M) (h4 : ∀ u ∈ t.vals, u.size ≤ M) (h5 : t.kids.length ≤ M) (h6 : ∀ c ∈ t.kids, Tr.Bd M c) : Tr.Bd M t
def Tr.Rg (t : Tr) : Prop := True
def Tr.szN : Nat → Tr → Int → Int
  | 0, _, _ => -1
  | n + 1, v, q => next (szL szS v.keys q) (fun q => next (szL szS v.vals q) (fun q => next (szL (Tr.szN n) v.kids q) (fun q => endQ q)))
theorem Tr.szN_ok : ∀ n, SzOk (Tr.szN n) (Tr.Bd 1048576)
  | 0 => by
    intro v left h0 h1 hn
    exact absurd (show (-1 : Int) < 0 by decide) hn
  | n + 1 => by
    intro v left h0 h1 hn
    unfold Tr.szN at hn ⊢
    obtain ⟨c1, e⟩ := next_ok hn
    rw [e] at hn ⊢
    clear e
    obtain ⟨a1, b1, d1⟩ := (szL_ok szS_sz) _ _ h0 h1 c1
    generalize szL szS v.keys left = q1 at hn c1 b1 d1 ⊢
    have b1 : 0 ≤ q1 ∧ q1 ≤ left := ⟨b1, d1⟩
    obtain ⟨c2, e⟩ := next_ok hn
    rw [e] at hn ⊢
    clear e
    obtain ⟨a2, b2, d2⟩ := (szL_ok szS_sz) _ _ b1.1 (by omega) c2
    generalize szL szS v.vals q1 = q2 at hn c2 b2 d2 ⊢
    have b2 : 0 ≤ q2 ∧ q2 ≤ q1 := ⟨b2, d2⟩
    obtain ⟨c3, e⟩ := next_ok hn
    rw [e] at hn ⊢
    clear e
    obtain ⟨a3, b3, d3⟩ := (szL_ok (Tr.szN_ok n)) _ _ b2.1 (by omega) c3
    generalize szL (Tr.szN n) v.kids q2 = q3 at hn c3 b3 d3 ⊢
    unfold endQ at hn ⊢
    exact ⟨⟨v, a1.1, a1.2, a2.1, a2.2, a3.1, a3.2⟩, by omega, by omega⟩
noncomputable def Tr.sz (t : Tr) (q : Int) : Int := Tr.szN t.le_ex.choose t q
theorem Tr.sz_ok : SzOk Tr.sz (Tr.Bd 1048576) := fun v left h0 h1 hn => Tr.szN_ok _ v left h0 h1 hn
def Tr.RP : List Y → Prop := fun ys => ∃ t : Tr, ys = t.row ∧ Tr.Bd maxLen t
theorem Tr.lift {ys : List Y} (h : Tr.RP ys) : ∃ v : Tr, ys = v.row ∧ Tr.Bd maxLen v ∧ Tr.Rg v := let ⟨t, e, b⟩ := h; ⟨t, e, b, trivial⟩
theorem Opens.to {P : Program} {n : Nat} {t : TypeId} {R R' : List Y → Prop} (h : Opens P n t R) (hr : ∀ ys, R ys → R' ys) : Opens P n t R' := fun enc w base spare held cs x hx =>
  let ⟨ys, h1, h2⟩ := h enc w base spare held cs x hx
  ⟨ys, h1, hr ys h2⟩
theorem Tr.opens {n : Nat} : Opens Try.prog n 42 Tr.RP := by
  induction n using Nat.strongRecOn with
  | _ n ih =>
    refine Opens.to (opens_struct (Rs := [rL 1 rS, rL 1 rS, rL 3 Tr.RP]) Try.underlying42 (by kernel_rfl) fun m hm => opensCons (opens_slice Try.underlying23 (by kernel_rfl) (by decide) fun m _ => opens_string Try.underlying9) (opensCons (opens_slice Try.underlying23 (by kernel_rfl) (by decide) fun m _ => opens_string Try.underlying9) (opensCons (opens_slice Try.underlying40 (by kernel_rfl) (by decide) fun m' hm' => ih m' (by omega)) opensNil))) ?_
    intro ys h
    obtain ⟨_, _, rfl, r0, ⟨_, _, rfl, r1, ⟨_, _, rfl, r2, rfl⟩⟩⟩ := h
    obtain ⟨x0, rfl, b0, c0⟩ := liftL (row := rowS) (B := fun s => s.size ≤ maxLen) (fun ys ⟨a, ha, e⟩ => ⟨a, e, ha⟩) r0
    obtain ⟨x1, rfl, b1, c1⟩ := liftL (row := rowS) (B := fun s => s.size ≤ maxLen) (fun ys ⟨a, ha, e⟩ => ⟨a, e, ha⟩) r1
    obtain ⟨x2, rfl, b2, c2⟩ := liftL (row := Tr.row) (B := fun v => Tr.Bd maxLen v) (fun ys h => h) r2
    exact ⟨⟨x0, x1, x2⟩, by rw [Tr.row_eq]; rfl, ⟨_, b0, c0, b1, c1, b2, c2⟩⟩
def zeroTreeS : List Y := [.sl 1 [], .sl 1 [], .sl 3 []]
theorem toTreeS_of (l : List Tr) (hl : l.length ≤ 1048576) (hb : ∀ v ∈ l, CallOK Try.prog 22 [.agg [.y (.sl 1 (v.keys.map rowS)), .y (.sl 1 (v.vals.map rowS)), .y (.sl 3 (v.kids.map Tr.row))]] ⟨.agg [.own 1 (v.keys.map rowS), .own 1 (v.vals.map rowS), .own 3 (v.kids.map Tr.row)], []⟩) : CallOK Try.prog 51 [.c (.y (.sl 3 (l.map Tr.row)))] ⟨.c (.own 3 (l.map Tr.row)), []⟩ := by
  obtain ⟨xs, hx⟩ : ∃ xs, xs = l.map Tr.row := ⟨_, rfl⟩
  have hxl : xs.length = l.length := by rw [hx, List.length_map]
  rw [← hx]
  obtain ⟨M, hM⟩ := mapEx
  try simp only [hM]
  refine go Try.func51 rfl rfl rfl rfl fun pAdd pSub pMul pQuo pRem pAnd pOr pXor pAndNot pShl pShr pNeg pCompl pConv pLt pLe pEq pSlt pSle pSeq pCat pCatOk pSlen pSsub pSat pIadd pIsub pBnot pBeq pImin pImax pLlen pLsub pLapp pLset pLcopy pLenOk pBytes pRep hF Ca hC r hr => ?_
  cbv
  have g1 : pLe 0 (pLlen xs) = true := zeroLeLen hF xs
  have g2 : pLe (pLlen xs) (pLlen xs) = true := leSelf hF _
  have g3 : pLenOk (pLlen xs) = true := lenOkLen hF (by omega)
  refine brT g1 (brT g2 (brT g3 ?_))
  refine loop_u (α := Nat × List (List Y)) (fun a st => (st.n 4 (Int.ofNat a.1)).ob 3001 (.ar 3 a.2))
    (fun a => a.1 ≤ l.length ∧ a.2 = fill Tr.row zeroTreeS l a.1) (fun a => l.length - a.1) (0, _) rfl ⟨by omega, ((repLen hF xs _).trans (hxl ▸ fill_zero ..))⟩ (fun K' hK I a hi ih => ?_)
  obtain ⟨i, zs⟩ := a
  obtain ⟨hi, hz⟩ := hi
  dsimp only at hi hz
  cbv
  refine brkI (fun h => ?_) (fun h => ?_) <;> try cbv
  · have hs : i < l.length := hxl ▸ iltT hF h
    have hzl : zs.length = l.length := by rw [hz]; exact fill_len _ _ _ hi
    have q1 : pLe 0 (Int.ofNat i) = true := zeroLe hF i
    have q2 : pLt (Int.ofNat i) (pLlen zs) = true := mkIlt hF (by omega)
    refine lgetM (fun u => [.sl 1 (M rowS u.keys), .sl 1 (M rowS u.vals), .sl 3 (M Tr.row u.kids)]) (fun u => by simp only [Tr.row_eq, hM]) hx hs fun u hu => ?_
    cbv
    refine callI hC (by have hh := hb u (hu ▸ List.getElem_mem hs); (try simp only [hM] at hh); exact hh) ?_
    cbv
    refine brT q1 (brT q2 ?_)
    refine lget (x := zeroTreeS) (by rw [hz]; exact fill_get _ _ _ hs) ?_
    have e1 : pAdd .i64 (Int.ofNat i) 1 = Int.ofNat (i + 1) := add1Is hF (by omega)
    have e2 : pLset zs (Int.ofNat i) [.sl 1 (M rowS u.keys), .sl 1 (M rowS u.vals), .sl 3 (M Tr.row u.kids)] = fill Tr.row zeroTreeS l (i + 1) := by
      have hh : [.sl 1 (M rowS u.keys), .sl 1 (M rowS u.vals), .sl 3 (M Tr.row u.kids)] = Tr.row u := by simp only [Tr.row_eq, hM]
      rw [hh, hu, hz, ← fill_set Tr.row zeroTreeS l hs]; exact lsetIs hF ..
    cbv
    conv => arg 1; cbv
    rw [e1]
    exact ih (i + 1, _) _ ⟨hs, e2⟩ (by dsimp only; omega) rfl
  · have hs : i = l.length := by have := iltF hF h; omega
    subst hs
    refine hK _ _ ?_
    cbv
    rw [hr, hz, hx, fill_end]
theorem eqTreeS_of (l : List Tr) (hl : l.length ≤ maxLen) (hb : ∀ v ∈ l, CallOK Try.prog 25 [.agg [.y (.sl 1 (v.keys.map rowS)), .y (.sl 1 (v.vals.map rowS)), .y (.sl 3 (v.kids.map Tr.row))], .agg [.y (.sl 1 (v.keys.map rowS)), .y (.sl 1 (v.vals.map rowS)), .y (.sl 3 (v.kids.map Tr.row))]] (B true)) : CallOK Try.prog 53 [.c (.y (.sl 3 (l.map Tr.row))), .c (.y (.sl 3 (l.map Tr.row)))] (B true) := by
  rw [maxLen_is] at hl
  obtain ⟨xs, hx⟩ : ∃ xs, xs = l.map Tr.row := ⟨_, rfl⟩
  have hxl : xs.length = l.length := by rw [hx, List.length_map]
  rw [← hx]
  obtain ⟨M, hM⟩ := mapEx
  try simp only [hM]
  refine go Try.func53 rfl rfl rfl rfl fun pAdd pSub pMul pQuo pRem pAnd pOr pXor pAndNot pShl pShr pNeg pCompl pConv pLt pLe pEq pSlt pSle pSeq pCat pCatOk pSlen pSsub pSat pIadd pIsub pBnot pBeq pImin pImax pLlen pLsub pLapp pLset pLcopy pLenOk pBytes pRep hF Ca hC r hr => ?_
  cbv
  refine brkI (fun h => ?_) (fun h => ?_) <;> try cbv
  · refine loop_u (α := Nat) (fun a st => st.n 5 (Int.ofNat a)) (fun a => a ≤ l.length) (fun a => l.length - a) 0 rfl (by omega) (fun K' hK I i hi ih => ?_)
    cbv
    refine brkI (fun h0 => ?_) (fun h0 => ?_) <;> try cbv
    · have hs : i < l.length := hxl ▸ iltT hF h0
      have e1 : pAdd .i64 (Int.ofNat i) 1 = Int.ofNat (i + 1) := add1Is hF (by omega)
      refine lgetM (fun u => [.sl 1 (M rowS u.keys), .sl 1 (M rowS u.vals), .sl 3 (M Tr.row u.kids)]) (fun u => by simp only [Tr.row_eq, hM]) hx hs fun u hu => ?_
      cbv
      refine lgetM (fun u => [.sl 1 (M rowS u.keys), .sl 1 (M rowS u.vals), .sl 3 (M Tr.row u.kids)]) (fun u => by simp only [Tr.row_eq, hM]) hx hs fun u' hu' => ?_
      rw [show u' = u from hu'.trans hu.symm]
      cbv
      refine callB hC (by have hh := hb u (hu ▸ List.getElem_mem hs); (try simp only [hM] at hh); exact hh) (fun h1 => ?_) (fun h1 => ?_) <;> try cbv
      · conv => arg 1; cbv
        rw [e1]
        exact ih (i + 1) _ hs (by omega) rfl
      · cases h1
    · refine hK _ _ ?_
      cbv
      exact hr.symm
  · exact absurd rfl (eqF hF h)
theorem szTreeS_of (n : Nat) (l : List Tr) (left : Int) (h0 : 0 ≤ left) (h1 : left ≤ 1048576) (hl : l.length ≤ maxLen) (hb : ∀ v ∈ l, ∀ left, 0 ≤ left → left ≤ 1048576 → CallOK Try.prog 21 [.agg [.y (.sl 1 (v.keys.map rowS)), .y (.sl 1 (v.vals.map rowS)), .y (.sl 3 (v.kids.map Tr.row))], aN left] (N (Tr.szN n v left))) : CallOK Try.prog 49 [.c (.y (.sl 3 (l.map Tr.row))), aN left] (N (szL (Tr.szN n) l left)) := by
  rw [maxLen_is] at hl
  obtain ⟨xs, hx⟩ : ∃ xs, xs = l.map Tr.row := ⟨_, rfl⟩
  have hxl : xs.length = l.length := by rw [hx, List.length_map]
  rw [← hx]
  obtain ⟨M, hM⟩ := mapEx
  try simp only [hM]
  refine go Try.func49 rfl rfl rfl rfl fun pAdd pSub pMul pQuo pRem pAnd pOr pXor pAndNot pShl pShr pNeg pCompl pConv pLt pLe pEq pSlt pSle pSeq pCat pCatOk pSlen pSsub pSat pIadd pIsub pBnot pBeq pImin pImax pLlen pLsub pLapp pLset pLcopy pLenOk pBytes pRep hF Ca hC r hr => ?_
  cbv
  obtain ⟨q0, hq0⟩ : ∃ q0, q0 = pSub .i64 left (pLlen xs) := ⟨_, rfl⟩
  rw [← hq0]
  refine brkI (fun h => ?_) (fun h => ?_) <;> try cbv
  all_goals have e : q0 = left - l.length := by rw [hq0, ← hxl]; exact subLenIs hF (by omega) (by omega)
  · have h' : left < l.length := by have := ltT hF h; omega
    rw [hr, szL, less1_neg h']
  · have h' : ¬ left < l.length := by have := ltF hF h; omega
    rw [szL, less1_pos h', ← e] at hr
    obtain ⟨res, hres⟩ : ∃ res, res = szRunL (Tr.szN n) l q0 := ⟨_, rfl⟩
    rw [← hres] at hr
    refine loop_u (α := Nat × Int) (fun a st => (st.n 1 a.2).n 5 (Int.ofNat a.1))
      (fun a => a.1 ≤ l.length ∧ 0 ≤ a.2 ∧ a.2 ≤ 1048576 ∧ res = szRunL (Tr.szN n) (l.drop a.1) a.2) (fun a => l.length - a.1) (0, q0) rfl ⟨by omega, by dsimp only; omega, by dsimp only; omega, hres⟩ (fun K' hK I a hi ih => ?_)
    obtain ⟨i, q⟩ := a
    obtain ⟨hi, hqa, hqb, hq⟩ := hi
    dsimp only at hi hqa hqb hq
    cbv
    refine brkI (fun h0 => ?_) (fun h0 => ?_) <;> try cbv
    · have hs : i < l.length := hxl ▸ iltT hF h0
      have e1 : pAdd .i64 (Int.ofNat i) 1 = Int.ofNat (i + 1) := add1Is hF (by omega)
      refine lgetM (fun u => [.sl 1 (M rowS u.keys), .sl 1 (M rowS u.vals), .sl 3 (M Tr.row u.kids)]) (fun u => by simp only [Tr.row_eq, hM]) hx hs fun u hu => ?_
      cbv
      have hm0 : u = l[i] := hu
      refine callN hC (by have hh := hb u (hu ▸ List.getElem_mem hs) q hqa hqb; (try simp only [hM] at hh); exact hh) (fun m hm => ?_)
      cbv
      rw [List.drop_eq_getElem_cons hs, szRunL, ← hu, ← hm] at hq
      refine brkI (fun h3 => ?_) (fun h3 => ?_) <;> try cbv
      · have h4 : m < 0 := ltT hF h3
        refine hK _ _ ?_
        cbv
        rw [hr, hq, next_neg h4]
      · have h4 : ¬ m < 0 := by have := ltF hF h3; omega
        have h5 := Tr.szN_ok n u q hqa hqb (hm ▸ h4)
        rw [← hm] at h5
        rw [next_pos h4] at hq
        conv => arg 1; cbv
        rw [e1]
        exact ih (i + 1, m) _ ⟨hs, h5.2.1, by dsimp only; omega, hq⟩ (by dsimp only; omega) rfl
    · have hs : i = l.length := by have := iltF hF h0; omega
      rw [hs, List.drop_length, szRunL] at hq
      refine hK _ _ ?_
      cbv
      rw [hr, hq]
theorem toTree_of (v : Tr) (h1 : v.keys.length ≤ 1048576) (h3 : v.vals.length ≤ 1048576) (hk : CallOK Try.prog 51 [.c (.y (.sl 3 (v.kids.map Tr.row)))] ⟨.c (.own 3 (v.kids.map Tr.row)), []⟩) : CallOK Try.prog 22 [.agg [.y (.sl 1 (v.keys.map rowS)), .y (.sl 1 (v.vals.map rowS)), .y (.sl 3 (v.kids.map Tr.row))]] ⟨.agg [.own 1 (v.keys.map rowS), .own 1 (v.vals.map rowS), .own 3 (v.kids.map Tr.row)], []⟩ := by
  obtain ⟨M, hM⟩ := mapEx
  try simp only [hM]
  refine go Try.func22 rfl rfl rfl rfl fun pAdd pSub pMul pQuo pRem pAnd pOr pXor pAndNot pShl pShr pNeg pCompl pConv pLt pLe pEq pSlt pSle pSeq pCat pCatOk pSlen pSsub pSat pIadd pIsub pBnot pBeq pImin pImax pLlen pLsub pLapp pLset pLcopy pLenOk pBytes pRep hF Ca hC r hr => ?_
  cbv
  refine callI hC (by have hh := toStringS_ok v.keys h1; (try simp only [hM] at hh); exact hh) ?_
  cbv
  refine callI hC (by have hh := toStringS_ok v.vals h3; (try simp only [hM] at hh); exact hh) ?_
  cbv
  refine callI hC (by have hh := hk; (try simp only [hM] at hh); exact hh) ?_
  cbv
  exact hr.symm
theorem toTree_ok (v : Tr) (hb : Tr.Bd 1048576 v) : CallOK Try.prog 22 [.agg [.y (.sl 1 (v.keys.map rowS)), .y (.sl 1 (v.vals.map rowS)), .y (.sl 3 (v.kids.map Tr.row))]] ⟨.agg [.own 1 (v.keys.map rowS), .own 1 (v.vals.map rowS), .own 3 (v.kids.map Tr.row)], []⟩ := by
  induction hb with
  | mk v h1 h2 h3 h4 h5 h6 ih => exact toTree_of v h1 h3 (toTreeS_of v.kids h5 ih)
theorem eqTree_of (v : Tr) (h1 : v.keys.length ≤ maxLen) (h3 : v.vals.length ≤ maxLen) (hk : CallOK Try.prog 53 [.c (.y (.sl 3 (v.kids.map Tr.row))), .c (.y (.sl 3 (v.kids.map Tr.row)))] (B true)) : CallOK Try.prog 25 [.agg [.y (.sl 1 (v.keys.map rowS)), .y (.sl 1 (v.vals.map rowS)), .y (.sl 3 (v.kids.map Tr.row))], .agg [.y (.sl 1 (v.keys.map rowS)), .y (.sl 1 (v.vals.map rowS)), .y (.sl 3 (v.kids.map Tr.row))]] (B true) := by
  obtain ⟨M, hM⟩ := mapEx
  try simp only [hM]
  refine go Try.func25 rfl rfl rfl rfl fun pAdd pSub pMul pQuo pRem pAnd pOr pXor pAndNot pShl pShr pNeg pCompl pConv pLt pLe pEq pSlt pSle pSeq pCat pCatOk pSlen pSsub pSat pIadd pIsub pBnot pBeq pImin pImax pLlen pLsub pLapp pLset pLcopy pLenOk pBytes pRep hF Ca hC r hr => ?_
  cbv
  refine callB hC (by have hh := eqStringS_ok v.keys h1; (try simp only [hM] at hh); exact hh) (fun h => ?_) (fun h => by cases h)
  try cbv
  refine callB hC (by have hh := eqStringS_ok v.vals h3; (try simp only [hM] at hh); exact hh) (fun h => ?_) (fun h => by cases h)
  try cbv
  refine callB hC (by have hh := hk; (try simp only [hM] at hh); exact hh) (fun h => ?_) (fun h => by cases h)
  try cbv
  exact hr.symm
theorem eqTree_ok (v : Tr) (hb : Tr.Bd maxLen v) : CallOK Try.prog 25 [.agg [.y (.sl 1 (v.keys.map rowS)), .y (.sl 1 (v.vals.map rowS)), .y (.sl 3 (v.kids.map Tr.row))], .agg [.y (.sl 1 (v.keys.map rowS)), .y (.sl 1 (v.vals.map rowS)), .y (.sl 3 (v.kids.map Tr.row))]] (B true) := by
  induction hb with
  | mk v h1 h2 h3 h4 h5 h6 ih => exact eqTree_of v h1 h3 (eqTreeS_of v.kids h5 ih)
theorem szTree_of (n : Nat) (v : Tr) (left : Int) (h0 : 0 ≤ left) (h1 : left ≤ 1048576) (m1 : v.keys.length ≤ maxLen) (m2 : ∀ u ∈ v.keys, u.size ≤ maxLen) (m3 : v.vals.length ≤ maxLen) (m4 : ∀ u ∈ v.vals, u.size ≤ maxLen) (hk : ∀ q : Int, 0 ≤ q → q ≤ 1048576 → CallOK Try.prog 49 [.c (.y (.sl 3 (v.kids.map Tr.row))), aN q] (N (szL (Tr.szN n) v.kids q))) : CallOK Try.prog 21 [.agg [.y (.sl 1 (v.keys.map rowS)), .y (.sl 1 (v.vals.map rowS)), .y (.sl 3 (v.kids.map Tr.row))], aN left] (N (Tr.szN (n + 1) v left)) := by
  obtain ⟨res, hres⟩ : ∃ res, res = Tr.szN (n + 1) v left := ⟨_, rfl⟩
  rw [← hres]
  unfold Tr.szN at hres
  obtain ⟨M, hM⟩ := mapEx
  try simp only [hM]
  refine go Try.func21 rfl rfl rfl rfl fun pAdd pSub pMul pQuo pRem pAnd pOr pXor pAndNot pShl pShr pNeg pCompl pConv pLt pLe pEq pSlt pSle pSeq pCat pCatOk pSlen pSsub pSat pIadd pIsub pBnot pBeq pImin pImax pLlen pLsub pLapp pLset pLcopy pLenOk pBytes pRep hF Ca hC r hr => ?_
  cbv
  refine callN hC (by have hh := szStringS_ok v.keys left (by omega) (by omega) m1 m2; (try simp only [hM] at hh); exact hh) (fun q1 hq1 => ?_)
  cbv
  rw [← hq1] at hres
  refine brkI (fun h => ?_) (fun h => ?_) <;> try cbv
  · have h' : q1 < 0 := ltT hF h
    rw [hr, hres, next_neg h']
  have n1 : ¬ q1 < 0 := by have := ltF hF h; omega
  have o1 := ((szL_ok szS_sz) v.keys left (by omega) (by omega) (hq1 ▸ n1)).2
  rw [← hq1] at o1
  rw [next_pos n1] at hres
  refine callN hC (by have hh := szStringS_ok v.vals q1 (by omega) (by omega) m3 m4; (try simp only [hM] at hh); exact hh) (fun q2 hq2 => ?_)
  cbv
  rw [← hq2] at hres
  refine brkI (fun h => ?_) (fun h => ?_) <;> try cbv
  · have h' : q2 < 0 := ltT hF h
    rw [hr, hres, next_neg h']
  have n2 : ¬ q2 < 0 := by have := ltF hF h; omega
  have o2 := ((szL_ok szS_sz) v.vals q1 (by omega) (by omega) (hq2 ▸ n2)).2
  rw [← hq2] at o2
  rw [next_pos n2] at hres
  refine callN hC (by have hh := hk q2 (by omega) (by omega); (try simp only [hM] at hh); exact hh) (fun q3 hq3 => ?_)
  cbv
  rw [← hq3] at hres
  refine brkI (fun h => ?_) (fun h => ?_) <;> try cbv
  · have h' : q3 < 0 := ltT hF h
    rw [hr, hres, next_neg h']
  have n3 : ¬ q3 < 0 := by have := ltF hF h; omega
  rw [next_pos n3] at hres
  rw [hr, hres]; rfl
theorem szTreeN_ok : ∀ (n : Nat) (v : Tr) (left : Int), Tr.Le n v → 0 ≤ left → left ≤ 1048576 → Tr.Bd maxLen v → CallOK Try.prog 21 [.agg [.y (.sl 1 (v.keys.map rowS)), .y (.sl 1 (v.vals.map rowS)), .y (.sl 3 (v.kids.map Tr.row))], aN left] (N (Tr.szN n v left))
  | 0, _, _, h, _, _, _ => h.elim
  | n + 1, v, left, hle, h0, h1, hm => by
    obtain ⟨_, m1, m2, m3, m4, m5, m6⟩ := hm
    exact szTree_of n v left h0 h1 m1 m2 m3 m4 fun q hq0 hq1 => szTreeS_of n v.kids q hq0 hq1 m5 (fun c hc left a b => szTreeN_ok n c left (hle c hc) a b (m6 c hc))
theorem szTree_ok (v : Tr) (left : Int) (h0 : 0 ≤ left) (h1 : left ≤ 1048576) (hm : Tr.Bd maxLen v) : CallOK Try.prog 21 [.agg [.y (.sl 1 (v.keys.map rowS)), .y (.sl 1 (v.vals.map rowS)), .y (.sl 3 (v.kids.map Tr.row))], aN left] (N (v.sz left)) := szTreeN_ok _ v left v.le_ex.choose_spec h0 h1 hm
end Go.Proofs.Ythaelohccopgjaa
