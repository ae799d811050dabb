/- Functions of the program, each with what it returns, run by the evaluator; the conditions stand in the theorems. -/
import Derived.Test.YtemfaiabbonpnaaDoorLDrV4
namespace Go.Proofs.YtemfaiabbonpnaaDoor
open Go Go.Proofs.YtemfaiabbonpnaaDoorW Go.Proofs
set_option linter.unusedVariables false
set_option linter.unusedSimpArgs false
set_option maxRecDepth 100000
set_option maxHeartbeats 800000
theorem drawKeyRead_q {xs : List (List Y)} (h : IsCode xs) : CallQ Tryd.prog 13 [.c (.y (.sl 1 xs))] (fun r => ∃ u : ByteArray, u.size ≤ 5000 ∧ r = St u) := by
  have hVs := @vals4
  have hS := src3 h
  have hKB : ∀ (zs : List (List Y)) (l : List Val), zs = l.map Val.row → l.length ≤ 20 → (∀ v ∈ l, VOk v) → ∃ t : ByteArray, t.size ≤ 4836 ∧ CallOK Tryd.prog 7 [.c (.y (.sl 3 zs))] (St t) := fun zs l hz hl hv =>
    ⟨keyBytes l, keyBytes_size l, hz ▸ sKeyBytes_ok l (by rw [maxLen_is]; omega) fun v hv' => (hv v hv').n⟩
  have hSp := @spoil_q
  obtain ⟨M, hM⟩ := mapEx
  try simp only [hM]
  refine goQ Tryd.func13 rfl rfl rfl rfl fun pAdd pSub pMul pQuo pRem pAnd pOr pXor pAndNot pShl pShr pNeg pCompl pConv pLt pLe pEq pSlt pSle pSeq pCat pCatOk pSlen pSsub pSat pIadd pIsub pBnot pBeq pImin pImax pLlen pLsub pLapp pLset pLcopy pLenOk pBytes pRep hF Ca hC Q1 hQ => ?_
  cbv
  refine callQ2 hC hS (fun m z hx => ?_)
  cbv
  obtain ⟨z0, z1, s0⟩ := hx
  refine callQ4 hC (hVs s0 m z) (fun zs l1 a1 m1 hx => ?_)
  cbv
  obtain ⟨hz, k1, v1, s1⟩ := hx
  obtain ⟨t, ht, hcall⟩ := hKB zs l1 hz k1 v1
  refine callI hC hcall ?_
  cbv
  refine callQ3 hC (n3 s1 m1 z 4 (by decide)) (fun q a2 m2 hx => ?_)
  cbv
  obtain ⟨h1, h2, h3⟩ := hx
  have es : pSlen t = Int.ofNat t.size := slenIs hF t
  refine brkI (fun h => ?_) (fun h => ?_) <;> try cbv
  · refine callQ3 hC (hSp h3 m2 z t (by omega)) (fun u a3 m3 hx => ?_)
    cbv
    obtain ⟨h4, h5⟩ := hx
    exact hQ _ ⟨u, by omega, rfl⟩
  refine brkI (fun h => ?_) (fun h => ?_) <;> try cbv
  · rw [es]
    have e1 : pAdd .i64 (Int.ofNat t.size) 1 = Int.ofNat (t.size + 1) := add1Is hF (by omega)
    have ec : ∀ n : Nat, n ≤ 10000 → pConv .i64 (Int.ofNat n) = Int.ofNat n := fun n hn => by cases hF; exact wrap_i64 (by ((try simp only [Int.ofNat_eq_natCast] at *); omega)) (by ((try simp only [Int.ofNat_eq_natCast] at *); omega))
    try rw [ec _ (by omega)]
    rw [e1]
    refine callQ3 hC (n3 h3 m2 z (Int.ofNat (t.size + 1)) (by ((try simp only [Int.ofNat_eq_natCast] at *); omega))) (fun q2 a3 m3 hx => ?_)
    cbv
    obtain ⟨h4, h5, h6⟩ := hx
    have hu : (pSsub t 0 q2).size ≤ t.size := by cases hF; exact ssub_le t 0 q2
    rw [es]
    refine brT (mkLe hF h4) (brT (mkLe hF (by rcases h5 with h5 | h5 <;> ((try simp only [Int.ofNat_eq_natCast] at *); omega))) ?_)
    exact hQ _ ⟨_, by omega, rfl⟩
  · exact hQ _ ⟨t, by omega, rfl⟩
def Val.eqb (u v : Val) : Bool := decide (u.k = v.k) && (decide (u.n = v.n) && decide (u.s = v.s))
theorem Val.eqb_iff (u v : Val) : u.eqb v = true ↔ u = v := by
  rw [Val.eqb, Bool.and_eq_true, Bool.and_eq_true, decide_eq_true_eq, decide_eq_true_eq, decide_eq_true_eq]
  constructor
  · rintro ⟨h1, h2, h3⟩
    cases u; cases v
    simp_all
  · rintro rfl; exact ⟨rfl, rfl, rfl⟩
def lwEq (a b : List Val) : Bool := decide (a.length = b.length) && allTo (fun i => (a.getD i default).eqb (b.getD i default)) a.length
theorem lwEq_iff (a b : List Val) : lwEq a b = true ↔ a = b := by
  rw [lwEq, Bool.and_eq_true, decide_eq_true_eq, allTo_iff]
  constructor
  · rintro ⟨h1, h2⟩
    refine List.ext_getElem h1 fun j h3 h4 => ?_
    have := h2 j h3
    rw [getD_at h3, getD_at h4, Val.eqb_iff] at this
    exact this
  · rintro rfl
    exact ⟨rfl, fun i _ => (Val.eqb_iff _ _).2 rfl⟩
theorem lwValues_ok (a b : List Val) (ha : a.length ≤ maxLen) : CallOK Tryd.prog 11 [.c (.y (.sl 3 (a.map Val.row))), .c (.y (.sl 3 (b.map Val.row)))] (B (lwEq a b)) := by
  obtain ⟨xs, hx⟩ : ∃ xs, xs = a.map Val.row := ⟨_, rfl⟩
  obtain ⟨ys, hy⟩ : ∃ ys, ys = b.map Val.row := ⟨_, rfl⟩
  obtain ⟨q, hq⟩ : ∃ q, q = lwEq a b := ⟨_, rfl⟩
  rw [← hx, ← hy, ← hq]
  rw [maxLen_is] at ha
  have q0 : a.length ≠ b.length → q = false := fun h => by rw [hq, lwEq, decide_eq_false h]; rfl
  have q1 : ∀ i, i < a.length → (a.getD i default).eqb (b.getD i default) = false → q = false := fun i hi h => by rw [hq, lwEq, allTo_false hi h, Bool.and_false]
  have q2 : a.length = b.length → (∀ i, i < a.length → (a.getD i default).eqb (b.getD i default) = true) → q = true := fun h h' => by rw [hq, lwEq, decide_eq_true h, allTo_iff.2 h']; rfl
  clear hq
  obtain ⟨M, hM⟩ := mapEx
  try simp only [hM]
  refine go Tryd.func11 rfl rfl rfl rfl fun pAdd pSub pMul pQuo pRem pAnd pOr pXor pAndNot pShl pShr pNeg pCompl pConv pLt pLe pEq pSlt pSle pSeq pCat pCatOk pSlen pSsub pSat pIadd pIsub pBnot pBeq pImin pImax pLlen pLsub pLapp pLset pLcopy pLenOk pBytes pRep hF Ca hC r hr => ?_
  cbv
  have ex : pLlen xs = Int.ofNat a.length := (llenIs hF _).trans (by rw [hx, List.length_map]; rfl)
  have ey : pLlen ys = Int.ofNat b.length := (llenIs hF _).trans (by rw [hy, List.length_map]; rfl)
  rw [ex, ey]
  refine brkI (fun h => ?_) (fun h => ?_) <;> try cbv
  rotate_left
  · have h := eqF hF h
    refine retB hr (q0 fun e => h (by rw [e]))
  have h := eqT hF h
  have hl : a.length = b.length := by ((try simp only [Int.ofNat_eq_natCast] at *); omega)
  refine loop_all (fun i st => st.n 5 (Int.ofNat i)) (fun i => (a.getD i default).eqb (b.getD i default)) a.length rfl (fun K' hK I i hi hp ih => ?_)
  cbv
  rw [ex]
  refine brkI (fun h => ?_) (fun h => ?_) <;> try cbv
  · have h := ltT hF h
    have hs : i < a.length := by ((try simp only [Int.ofNat_eq_natCast] at *); omega)
    have e1 : pAdd .i64 (Int.ofNat i) 1 = Int.ofNat (i + 1) := add1Is hF (by omega)
    obtain ⟨u, hu⟩ : ∃ u, u = a[i] := ⟨_, rfl⟩
    have hsb : i < b.length := by omega
    obtain ⟨v, hv⟩ : ∃ v, v = b[i] := ⟨_, rfl⟩
    refine Exists.intro [yN u.k, yN u.n, yS u.s] ?_
    cbv
    refine And.intro ⟨Int.natCast_nonneg i, by rw [hx, show (Int.ofNat i).toNat = i from rfl, List.getElem?_map, List.getElem?_eq_getElem hs, hu]; rfl⟩ ?_
    refine Exists.intro [yN v.k, yN v.n, yS v.s] ?_
    cbv
    refine And.intro ⟨Int.natCast_nonneg i, by rw [hy, show (Int.ofNat i).toNat = i from rfl, List.getElem?_map, List.getElem?_eq_getElem hsb, hv]; rfl⟩ ?_
    have d1 : a.getD i default = u := getD_of hs hu
    have d2 : b.getD i default = v := getD_of hsb hv
    have w1 := q1 i hs
    rw [d1, d2] at w1
    have w2 : u.eqb v = true → ∀ s', s' = _ → I s' := fun h s' hs' => ih s' hs (by rw [d1, d2]; exact h) hs'
    have w3 : u.eqb v = (decide (u.k = v.k) && (decide (u.n = v.n) && decide (u.s = v.s))) := rfl
    refine brkI (fun g1 => ?_) (fun g1 => ?_) <;> try cbv
    · have g1 : u.k = v.k := eqT hF g1
      refine brkI (fun g2 => ?_) (fun g2 => ?_) <;> try cbv
      · have g2 : u.n = v.n := eqT hF g2
        refine brkI (fun g3 => ?_) (fun g3 => ?_) <;> try cbv
        · have g3 : u.s = v.s := seqT hF g3
          conv => arg 1; cbv
          rw [e1]
          exact w2 (by rw [w3, g1, g2, g3]; simp) _ rfl
        · have g3 : u.s ≠ v.s := seqF hF g3
          refine hK _ _ ?_
          cbv
          exact retB hr (w1 (by rw [w3, decide_eq_false g3]; simp))
      · have g2 : u.n ≠ v.n := eqF hF g2
        refine hK _ _ ?_
        cbv
        exact retB hr (w1 (by rw [w3, decide_eq_false g2]; simp))
    · have g1 : u.k ≠ v.k := eqF hF g1
      refine hK _ _ ?_
      cbv
      exact retB hr (w1 (by rw [w3, decide_eq_false g1]; simp))
  · have h := ltF hF h
    have hin : i = a.length := by ((try simp only [Int.ofNat_eq_natCast] at *); omega)
    refine hK _ _ ?_
    cbv
    refine retB hr (q2 hl ?_)
    subst hin
    exact hp
end Go.Proofs.YtemfaiabbonpnaaDoor
