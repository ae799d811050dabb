/- Functions of the program, each with what it returns, run by the evaluator; the conditions stand in the theorems. -/
import Derived.Test.YthaelohccopgjaaLTr6
namespace Go.Proofs.Ythaelohccopgjaa
open Go Go.Proofs.YthaelohccopgjaaW Go.Proofs
set_option linter.unusedVariables false
set_option linter.unusedSimpArgs false
set_option maxRecDepth 100000
set_option maxHeartbeats 8000000
/-! where a key belongs -/
def plcF (f : Nat → Bool) : Nat → Nat → Nat
  | i, 0 => i
  | i, m + 1 => if f i then plcF f (i + 1) m else i
theorem plcF_of {f : Nat → Bool} : ∀ {m i p : Nat}, i ≤ p → p ≤ i + m → (∀ j, i ≤ j → j < p → f j = true) → (p < i + m → f p = false) → plcF f i m = p
  | 0, i, p, h1, h2, _, _ => by rw [plcF]; omega
  | m + 1, i, p, h1, h2, h3, h4 => by
    rw [plcF]
    by_cases e : i = p
    · subst e; rw [h4 (by omega)]; rfl
    · rw [h3 i (by omega) (by omega), if_pos rfl]
      exact plcF_of (by omega) (by omega) (fun j a b => h3 j (by omega) b) (fun a => h4 (by omega))
def Tr.plc (t : Tr) (key : ByteArray) : Nat := plcF (fun i => ltS (t.key i) key) 0 t.keys.length
def Tr.has (t : Tr) (key : ByteArray) : Bool := decide (t.plc key < t.keys.length) && decide (t.key (t.plc key) = key)
theorem plcF_le {f : Nat → Bool} : ∀ {m i : Nat}, plcF f i m ≤ i + m
  | 0, i => Nat.le_refl _
  | m + 1, i => by
    rw [plcF]; split
    · have := plcF_le (f := f) (m := m) (i := i + 1); omega
    · omega
theorem Tr.plc_le (t : Tr) (key : ByteArray) : t.plc key ≤ t.keys.length := by
  have := plcF_le (f := fun i => ltS (t.key i) key) (m := t.keys.length) (i := 0)
  rw [Tr.plc]; omega
def getT : Nat → Tr → ByteArray → Option ByteArray
  | 0, _, _ => none
  | d + 1, t, key => if t.has key then some (t.val (t.plc key)) else if t.kids.length = 0 then none else getT d (t.kid (t.plc key)) key
abbrev tupSB (s : ByteArray) (b : Bool) : Res := ⟨.tup [(false, [.y (yS s)]), (false, [.y (yB b)])], []⟩
abbrev tupNB (n : Int) (b : Bool) : Res := ⟨.tup [(false, [.y (yN n)]), (false, [.y (yB b)])], []⟩
theorem sPlace_ok (t : Tr) (key : ByteArray) (b1 : t.keys.length ≤ maxLen) : CallOK Try.prog 72 [.agg [.y (.sl 1 (t.keys.map rowS)), .y (.sl 1 (t.vals.map rowS)), .y (.sl 3 (t.kids.map Tr.row))], aS key] (tupNB (Int.ofNat (t.plc key)) (t.has key)) := by
  rw [maxLen_is] at b1
  obtain ⟨p, hp⟩ : ∃ p, p = t.plc key := ⟨_, rfl⟩
  obtain ⟨b, hb⟩ : ∃ p, p = t.has key := ⟨_, rfl⟩
  rw [← hp, ← hb]
  have hb' : b = (decide (p < t.keys.length) && decide (t.key p = key)) := by rw [hb, Tr.has, ← hp]
  rw [Tr.plc] at hp
  obtain ⟨n, hn⟩ : ∃ n, n = t.keys.length := ⟨_, rfl⟩
  rw [← hn] at b1 hp
  obtain ⟨M, hM⟩ := mapEx
  try simp only [hM]
  refine go Try.func72 rfl rfl rfl rfl fun pAdd pSub pMul pQuo pRem pAnd pOr pXor pAndNot pShl pShr pNeg pCompl pConv pLt pLe pEq pSlt pSle pSeq pCat pCatOk pSlen pSsub pSat pIadd pIsub pBnot pBeq pImin pImax pLlen pLsub pLapp pLset pLcopy pLenOk pBytes pRep hF Ca hC r hr => ?_
  cbv
  have lk : pLlen (M rowS t.keys) = Int.ofNat n := (llenIs hF _).trans (by rw [← hM, List.length_map, ← hn]; rfl)
  refine loop_u (α := Nat) (fun a st => st.n 6 (Int.ofNat a)) (fun a => a ≤ n ∧ p = plcF (fun i => ltS (t.key i) key) a (n - a)) (fun a => n - a) 0 rfl ⟨by omega, hp⟩ (fun K' hK I i hi ih1 => ?_)
  obtain ⟨hi, hq⟩ := hi
  cbv
  rw [lk]
  refine brkI (fun h0 => ?_) (fun h0 => ?_) <;> try cbv
  · have h0' := h0
    have h0 := ltT hF h0
    have hs : i < t.keys.length := by rw [← hn]; ((try simp only [Int.ofNat_eq_natCast] at *); omega)
    have e2 : pAdd .i64 (Int.ofNat i) 1 = Int.ofNat (i + 1) := add1Is hF (by omega)
    refine lgetM (l := t.keys) (fun u => [yS u]) (fun u => by simp only [rowS]) (hM _ _).symm hs fun u hu => ?_
    cbv
    have ku : t.key i = u := getD_of hs hu
    rw [show n - i = (n - (i + 1)) + 1 from by omega, plcF, ku] at hq
    refine brkI (fun h1 => ?_) (fun h1 => ?_) <;> try cbv
    · rw [if_pos (sltT hF h1)] at hq
      conv => arg 1; cbv
      rw [e2]
      exact ih1 (i + 1) _ ⟨by omega, hq⟩ (by omega) rfl
    · rw [if_neg (by rw [sltF hF h1]; decide)] at hq
      refine hK _ _ ?_
      cbv
      rw [lk]
      refine brT h0' ?_
      try cbv
      refine lgetM (l := t.keys) (fun u => [yS u]) (fun u => by simp only [rowS]) (hM _ _).symm hs fun u' hu' => ?_
      cbv
      rw [show u' = u from hu'.trans hu.symm]
      subst hq
      refine brkI (fun h2 => ?_) (fun h2 => ?_) <;> try cbv
      · have h2 := seqT hF h2
        have : b = true := by rw [hb', ku, h2]; simp [hs]
        rw [hr, this]
      · have h2 := seqF hF h2
        have : b = false := by rw [hb', ku]; simp [h2]
        rw [hr, this]
  · have h0' := h0
    have h0 := ltF hF h0
    have hi2 : i = n := by ((try simp only [Int.ofNat_eq_natCast] at *); omega)
    rw [hi2, Nat.sub_self, plcF] at hq
    subst hi2
    refine hK _ _ ?_
    cbv
    rw [lk]
    refine brF h0' ?_
    try cbv
    have : b = false := by rw [hb', hq, ← hn]; simp
    rw [hr, this, hq]
theorem isNaN1_ok (s : ByteArray) : CallOK Try.prog 91 [aS s] (B false) := by
  obtain ⟨M, hM⟩ := mapEx
  try simp only [hM]
  refine go Try.func91 rfl rfl rfl rfl fun pAdd pSub pMul pQuo pRem pAnd pOr pXor pAndNot pShl pShr pNeg pCompl pConv pLt pLe pEq pSlt pSle pSeq pCat pCatOk pSlen pSsub pSat pIadd pIsub pBnot pBeq pImin pImax pLlen pLsub pLapp pLset pLcopy pLenOk pBytes pRep hF Ca hC r hr => ?_
  cbv
  refine brkI (fun h => ?_) (fun h => ?_) <;> try cbv
  · exact hr.symm
  · exact absurd rfl (seqF hF h)
theorem isNaN2_ok (s : ByteArray) : CallOK Try.prog 80 [aS s] (B false) := by
  obtain ⟨M, hM⟩ := mapEx
  try simp only [hM]
  refine go Try.func80 rfl rfl rfl rfl fun pAdd pSub pMul pQuo pRem pAnd pOr pXor pAndNot pShl pShr pNeg pCompl pConv pLt pLe pEq pSlt pSle pSeq pCat pCatOk pSlen pSsub pSat pIadd pIsub pBnot pBeq pImin pImax pLlen pLsub pLapp pLset pLcopy pLenOk pBytes pRep hF Ca hC r hr => ?_
  cbv
  refine brkI (fun h => ?_) (fun h => ?_) <;> try cbv
  · exact hr.symm
  · exact absurd rfl (seqF hF h)
theorem less_ok (a b : ByteArray) : CallOK Try.prog 79 [aS a, aS b] (B (ltS a b)) := by
  obtain ⟨q, hq⟩ : ∃ q, q = ltS a b := ⟨_, rfl⟩
  rw [← hq]
  have c1 := isNaN1_ok a
  obtain ⟨M, hM⟩ := mapEx
  try simp only [hM]
  refine go Try.func79 rfl rfl rfl rfl fun pAdd pSub pMul pQuo pRem pAnd pOr pXor pAndNot pShl pShr pNeg pCompl pConv pLt pLe pEq pSlt pSle pSeq pCat pCatOk pSlen pSsub pSat pIadd pIsub pBnot pBeq pImin pImax pLlen pLsub pLapp pLset pLcopy pLenOk pBytes pRep hF Ca hC r hr => ?_
  cbv
  refine callB hC c1 (fun h => by cases h) (fun h => ?_) <;> try cbv
  refine brkI (fun h1 => ?_) (fun h1 => ?_) <;> try cbv
  · exact retB hr (hq.trans (sltT hF h1))
  · exact retB hr (hq.trans (sltF hF h1))
def Tr.Sorted (t : Tr) : Prop := ∀ i, 0 < i → i < t.keys.length → ltS (t.key (i - 1)) (t.key i) = true
theorem Tr.Sorted.lt {t : Tr} (h : t.Sorted) : ∀ {j i : Nat}, i < j → j < t.keys.length → ltS (t.key i) (t.key j) = true
  | 0, i, h1, _ => absurd h1 (by omega)
  | j + 1, i, h1, h2 => by
    have a := h (j + 1) (by omega) h2
    by_cases e : i = j
    · subst e; exact a
    · exact ltS_trans (h.lt (j := j) (by omega) (by omega)) a
theorem half {F : Prims} (hF : prims = F) (m : Nat) (h : m ≤ 9223372036854775807) : F.conv .i64 (F.shr .u64 (F.conv .u64 (Int.ofNat m)) 1) = Int.ofNat (m / 2) := by
  subst hF
  have e1 : prims.conv .u64 (Int.ofNat m) = Int.ofNat m := by
    show IntKind.u64.wrap (m : Int) = (m : Int)
    simp [IntKind.wrap, IntKind.bits, IntKind.signed]; omega
  have e2 : prims.shr .u64 (Int.ofNat m) 1 = Int.ofNat (m / 2) := by
    show Int.fdiv (m : Int) (2 ^ min (1 : Int).toNat IntKind.u64.bits) = ((m / 2 : Nat) : Int)
    rw [show (2 : Int) ^ min (1 : Int).toNat IntKind.u64.bits = 2 from rfl, Int.fdiv_eq_ediv_of_nonneg _ (by decide)]
    omega
  rw [e1, e2]
  exact wrap_i64 (by ((try simp only [Int.ofNat_eq_natCast] at *); omega)) (by ((try simp only [Int.ofNat_eq_natCast] at *); omega))
theorem bsearch_ok (t : Tr) (key : ByteArray) (b1 : t.keys.length ≤ 1048576) (hso : t.Sorted) : CallOK Try.prog 66 [.c (.y (.sl 1 (t.keys.map rowS))), aS key] (tupNB (Int.ofNat (t.plc key)) (t.has key)) := by
  obtain ⟨p, hp⟩ : ∃ p, p = t.plc key := ⟨_, rfl⟩
  obtain ⟨b, hb⟩ : ∃ p, p = t.has key := ⟨_, rfl⟩
  rw [← hp, ← hb]
  have hb' : b = (decide (p < t.keys.length) && decide (t.key p = key)) := by rw [hb, Tr.has, ← hp]
  rw [Tr.plc] at hp
  obtain ⟨n, hn⟩ : ∃ n, n = t.keys.length := ⟨_, rfl⟩
  rw [← hn] at b1 hp
  obtain ⟨M, hM⟩ := mapEx
  try simp only [hM]
  refine go Try.func66 rfl rfl rfl rfl fun pAdd pSub pMul pQuo pRem pAnd pOr pXor pAndNot pShl pShr pNeg pCompl pConv pLt pLe pEq pSlt pSle pSeq pCat pCatOk pSlen pSsub pSat pIadd pIsub pBnot pBeq pImin pImax pLlen pLsub pLapp pLset pLcopy pLenOk pBytes pRep hF Ca hC r hr => ?_
  cbv
  have lk : pLlen (M rowS t.keys) = Int.ofNat n := (llenIs hF _).trans (by rw [← hM, List.length_map, ← hn]; rfl)
  rw [lk]
  refine loop_u (α := Nat × Nat) (fun a st => (st.n 7 (Int.ofNat a.1)).n 8 (Int.ofNat a.2))
    (fun a => a.1 ≤ a.2 ∧ a.2 ≤ n ∧ (∀ x, x < a.1 → ltS (t.key x) key = true) ∧ (∀ x, a.2 ≤ x → x < n → ltS (t.key x) key = false)) (fun a => a.2 - a.1) (0, n) rfl ⟨by omega, by omega, fun x hx => absurd hx (by omega), fun x hx hx2 => absurd hx2 (by omega)⟩ (fun K' hK I a hi ih1 => ?_)
  obtain ⟨i, j⟩ := a
  obtain ⟨h1, h2, h3, h4⟩ := hi
  dsimp only at h1 h2 h3 h4
  cbv
  refine brkI (fun h0 => ?_) (fun h0 => ?_) <;> try cbv
  · have h0 := ltT hF h0
    have h0 : i < j := by ((try simp only [Int.ofNat_eq_natCast] at *); omega)
    refine brF (by first | rfl | exact mkNlt hF (by decide)) ?_
    try cbv
    have e1 : pAdd .i64 (Int.ofNat i) (Int.ofNat j) = Int.ofNat (i + j) := addNIs hF (by omega)
    obtain ⟨hh, hhh⟩ : ∃ h, h = (i + j) / 2 := ⟨_, rfl⟩
    have e2 : pConv .i64 (pShr .u64 (pConv .u64 (Int.ofNat (i + j))) 1) = Int.ofNat hh := (half hF (i + j) (by omega)).trans (by rw [hhh])
    rw [e1, e2]
    have hs : hh < t.keys.length := by omega
    refine lgetM (l := t.keys) (fun u => [yS u]) (fun u => by simp only [rowS]) (hM _ _).symm hs fun u hu => ?_
    cbv
    have ku : t.key hh = u := getD_of hs hu
    have e3 : pAdd .i64 (Int.ofNat hh) 1 = Int.ofNat (hh + 1) := add1Is hF (by omega)
    refine callB hC (less_ok u key) (fun h5 => ?_) (fun h5 => ?_) <;> try cbv
    · conv => arg 1; cbv
      rw [e3]
      refine ih1 (hh + 1, j) _ ⟨by dsimp only; omega, h2, fun x hx => ?_, h4⟩ (by dsimp only; omega) rfl
      dsimp only at hx
      by_cases e : x = hh
      · rw [e, ku]; exact h5
      · exact ltS_trans (hso.lt (by omega) hs) (ku ▸ h5)
    · conv => arg 1; cbv
      refine ih1 (i, hh) _ ⟨by dsimp only; omega, by dsimp only; omega, h3, fun x hx hx2 => ?_⟩ (by dsimp only; omega) rfl
      dsimp only at hx
      by_cases e : x = hh
      · rw [e, ku]; exact h5
      · cases hc : ltS (t.key x) key with
        | false => rfl
        | true =>
          have := ltS_trans (hso.lt (i := hh) (j := x) (by omega) (by omega)) hc
          rw [ku, h5] at this; cases this
  · have h0 := ltF hF h0
    have hij : i = j := by ((try simp only [Int.ofNat_eq_natCast] at *); omega)
    subst hij
    have hpi : p = i := hp.trans (plcF_of (by omega) (by omega) (fun j _ h => h3 j h) (fun h => h4 i (by omega) (by omega)))
    subst hpi
    refine hK _ _ ?_
    cbv
    refine brkI (fun h5 => ?_) (fun h5 => ?_) <;> try cbv
    · have h5 := ltT hF h5
      have hs : p < t.keys.length := by rw [← hn]; ((try simp only [Int.ofNat_eq_natCast] at *); omega)
      refine lgetM (l := t.keys) (fun u => [yS u]) (fun u => by simp only [rowS]) (hM _ _).symm hs fun u hu => ?_
      cbv
      have ku : t.key p = u := getD_of hs hu
      refine brkI (fun h2 => ?_) (fun h2 => ?_) <;> try cbv
      · have h2 := seqT hF h2
        have : b = true := by rw [hb', ku, h2]; simp [hs]
        rw [hr, this]
      · have h2 := seqF hF h2
        have : b = false := by rw [hb', ku]; simp [h2]
        refine lgetM (l := t.keys) (fun u => [yS u]) (fun u => by simp only [rowS]) (hM _ _).symm hs fun u' hu' => ?_
        cbv
        refine callB hC (isNaN2_ok u') (fun h => by cases h) (fun h => ?_) <;> try cbv
        rw [hr, this]
    · have h5 := ltF hF h5
      have : b = false := by rw [hb', ← hn]; simp; intro h; exact absurd h (by ((try simp only [Int.ofNat_eq_natCast] at *); omega))
      rw [hr, this]
end Go.Proofs.Ythaelohccopgjaa
