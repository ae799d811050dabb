/- Functions of the program, each with what it returns, run by the evaluator; the conditions stand in the theorems. -/
import Derived.Test.YtemfaiabbonpnaaDoorLSrcQ
import Derived.Test.YtemfaiabbonpnaaDoorLKBR
import Derived.Test.YtemfaiabbonpnaaDoorV6
namespace Go.Proofs.YtemfaiabbonpnaaDoor
open Go Go.Proofs.YtemfaiabbonpnaaDoorW Go.Proofs
set_option linter.unusedVariables false
set_option linter.unusedSimpArgs false
set_option maxRecDepth 100000
set_option maxHeartbeats 8000000
/-! Drawn values. -/
structure VOk (v : Val) : Prop where
  k : I64 v.k
  n : I64 v.n
  s : v.s.size ≤ 300
theorem vok {k n : Int} {s : ByteArray} (hk : I64 k) (hn : I64 n) (hs : s.size ≤ 300) : VOk ⟨k, n, s⟩ := ⟨hk, hn, hs⟩
abbrev valC (v : Val) : RV := .agg [.y (yN v.k), .y (yN v.n), .y (yS v.s)]
theorem i64d : I64 2 ∧ I64 0 ∧ I64 3 := ⟨⟨by decide, by decide⟩, ⟨by decide, by decide⟩, ⟨by decide, by decide⟩⟩
theorem i64_n {q : Int} (h0 : -1000 ≤ q) (h1 : q ≤ 1000000) : I64 q := ⟨by omega, by omega⟩
theorem n3 {xs : List (List Y)} {a : Int} (h : SrcAt xs a) (m z most : Int) (hm : most ≤ 4611686018427387904) :
    CallQ Tryd.prog 31 [.io (srcC xs a m z), aN most] (fun r => ∃ q a m, (0 ≤ q ∧ (q < most ∨ q = 0) ∧ SrcAt xs a) ∧ r = ⟨.c (.y (yN q)), [srcC xs a m z]⟩) :=
  CallQ.mono (n_q h m z most hm) fun r ⟨q, a, m, h1, h2, h3, h4⟩ => ⟨q, a, m, ⟨h1, h2, h3⟩, h4⟩
theorem one3 {xs : List (List Y)} {a : Int} (h : SrcAt xs a) (m z most : Int) (hm : most ≤ 4611686018427387904) :
    CallQ Tryd.prog 20 [.io (srcC xs a m z), aN most] (fun r => ∃ b a m, SrcAt xs a ∧ r = ⟨.c (.y (yB b)), [srcC xs a m z]⟩) := one_q h m z most hm
theorem pick_q {xs : List (List Y)} {a : Int} (h : SrcAt xs a) (m z : Int) (l : List ByteArray) (hl : 1 ≤ l.length) (hl2 : l.length ≤ 1000) :
    CallQ Tryd.prog 49 [.io (srcC xs a m z), .c (.y (.sl 1 (l.map rowS)))] (fun r => ∃ u a m, u ∈ l ∧ SrcAt xs a ∧ r = ⟨.c (.y (yS u)), [srcC xs a m z]⟩) := by
  obtain ⟨ys, hy⟩ : ∃ ys, ys = l.map rowS := ⟨_, rfl⟩
  have hyl : ys.length = l.length := by rw [hy, List.length_map]
  rw [← hy]
  obtain ⟨M, hM⟩ := mapEx
  try simp only [hM]
  refine goQ Tryd.func49 rfl rfl rfl rfl fun pAdd pSub pMul pQuo pRem pAnd pOr pXor pAndNot pShl pShr pNeg pCompl pConv pLt pLe pEq pSlt pSle pSeq pCat pCatOk pSlen pSsub pSat pIadd pIsub pBnot pBeq pImin pImax pLlen pLsub pLapp pLset pLcopy pLenOk pBytes pRep hF Ca hC Q1 hQ => ?_
  cbv
  have el : pLlen ys = Int.ofNat l.length := (llenIs hF _).trans (by rw [hyl]; rfl)
  have ec : pConv .i64 (Int.ofNat l.length) = Int.ofNat l.length := by cases hF; exact wrap_i64 (by ((try simp only [Int.ofNat_eq_natCast] at *); omega)) (by ((try simp only [Int.ofNat_eq_natCast] at *); omega))
  rw [el]
  try rw [ec]
  refine callQ hC (n_q h m z (Int.ofNat l.length) (by ((try simp only [Int.ofNat_eq_natCast] at *); omega))) ?_
  rintro r ⟨q, a2, m2, h1, h2, h3, rfl⟩
  cbv
  obtain ⟨i, rfl⟩ : ∃ i : Nat, q = Int.ofNat i := ⟨q.toNat, by ((try simp only [Int.ofNat_eq_natCast] at *); omega)⟩
  have hi : i < l.length := by rcases h2 with h2 | h2 <;> ((try simp only [Int.ofNat_eq_natCast] at *); omega)
  refine lgetR hy hi (fun u hu => ?_)
  cbv
  exact hQ _ ⟨_, _, _, by rw [hu]; exact List.getElem_mem hi, h3, rfl⟩
theorem l02Int_ok (n : Int) : CallOK Tryd.prog 47 [aN n] ⟨valC ⟨2, n, ⟨⟨[]⟩⟩⟩, []⟩ := by
  obtain ⟨M, hM⟩ := mapEx
  try simp only [hM]
  refine go Tryd.func47 rfl rfl rfl rfl fun pAdd pSub pMul pQuo pRem pAnd pOr pXor pAndNot pShl pShr pNeg pCompl pConv pLt pLe pEq pSlt pSle pSeq pCat pCatOk pSlen pSsub pSat pIadd pIsub pBnot pBeq pImin pImax pLlen pLsub pLapp pLset pLcopy pLenOk pBytes pRep hF Ca hC r hr => ?_
  cbv
  exact hr.symm
theorem l02Text_ok (s : ByteArray) : CallOK Tryd.prog 38 [aS s] ⟨valC ⟨3, 0, s⟩, []⟩ := by
  obtain ⟨M, hM⟩ := mapEx
  try simp only [hM]
  refine go Tryd.func38 rfl rfl rfl rfl fun pAdd pSub pMul pQuo pRem pAnd pOr pXor pAndNot pShl pShr pNeg pCompl pConv pLt pLe pEq pSlt pSle pSeq pCat pCatOk pSlen pSsub pSat pIadd pIsub pBnot pBeq pImin pImax pLlen pLsub pLapp pLset pLcopy pLenOk pBytes pRep hF Ca hC r hr => ?_
  cbv
  exact hr.symm
abbrev ValQ (xs : List (List Y)) (z : Int) (r : Res) : Prop := ∃ (k n : Int) (s : ByteArray) (a m : Int), (VOk ⟨k, n, s⟩ ∧ SrcAt xs a) ∧ r = ⟨.agg [.y (yN k), .y (yN n), .y (yS s)], [srcC xs a m z]⟩
theorem l02Of_q {xs : List (List Y)} {a : Int} (h : SrcAt xs a) (m z k : Int) (hk : I64 k) : CallQ Tryd.prog 37 [.io (srcC xs a m z), aN k] (ValQ xs z) := by
  have hI := l02Int_ok
  have hT := l02Text_ok
  simp only [valC] at hI hT
  obtain ⟨M, hM⟩ := mapEx
  try simp only [hM]
  refine goQ Tryd.func37 rfl rfl rfl rfl fun pAdd pSub pMul pQuo pRem pAnd pOr pXor pAndNot pShl pShr pNeg pCompl pConv pLt pLe pEq pSlt pSle pSeq pCat pCatOk pSlen pSsub pSat pIadd pIsub pBnot pBeq pImin pImax pLlen pLsub pLapp pLset pLcopy pLenOk pBytes pRep hF Ca hC Q1 hQ => ?_
  cbv
  refine brkI (fun h => ?_) (fun h => ?_) <;> try cbv
  · have hk1 := eqT hF h
    refine callQ hC (n_q (by assumption) m z 2 (by decide)) ?_
    rintro r ⟨q, a2, m2, h1, h2, h3, rfl⟩
    cbv
    exact hQ _ ⟨k, q, ⟨⟨[]⟩⟩, _, _, ⟨vok hk (i64_n (by omega) (by rcases h2 with h2 | h2 <;> omega)) (by decide), h3⟩, rfl⟩
  refine brkI (fun h => ?_) (fun h => ?_) <;> try cbv
  · refine callQ hC (one_q (by assumption) m z 8 (by decide)) ?_
    rintro r ⟨b, a1, m1, h1, rfl⟩
    cbv
    cases b <;> try cbv
    · refine callQ hC (n_q h1 m1 z 9 (by decide)) ?_
      rintro r ⟨q, a2, m2, h1, h2, h3, rfl⟩
      cbv
      refine callI hC (hI _) ?_
      try cbv
      have e : pSub .i64 q 2 = q - 2 := subIs hF (by omega) (by rcases h2 with h2 | h2 <;> omega)
      rw [e]
      exact hQ _ ⟨2, q - 2, ⟨⟨[]⟩⟩, _, _, ⟨vok i64d.1 (i64_n (by omega) (by rcases h2 with h2 | h2 <;> omega)) (by decide), h3⟩, rfl⟩
    · refine callQ hC (edge_q h1 m1 z) ?_
      rintro r ⟨q, a2, m2, h2, h3, rfl⟩
      cbv
      refine callI hC (hI _) ?_
      try cbv
      exact hQ _ ⟨2, q, ⟨⟨[]⟩⟩, _, _, ⟨vok i64d.1 h2 (by decide), h3⟩, rfl⟩
  refine brkI (fun h => ?_) (fun h => ?_) <;> try cbv
  · refine callQ hC (pick_q (by assumption) m z [⟨⟨[]⟩⟩, ⟨⟨[97]⟩⟩, ⟨⟨[98]⟩⟩, ⟨⟨[97, 98]⟩⟩, ⟨⟨[97, 0]⟩⟩, ⟨⟨[97, 0, 98]⟩⟩, ⟨⟨[255]⟩⟩, ⟨⟨[99]⟩⟩] (by decide) (by decide)) ?_
    rintro r ⟨u, a2, m2, h2, h3, rfl⟩
    cbv
    refine callI hC (hT _) ?_
    try cbv
    have hu : u.size ≤ 300 := by
      simp only [List.mem_cons, List.not_mem_nil, or_false] at h2
      rcases h2 with rfl | rfl | rfl | rfl | rfl | rfl | rfl | rfl <;> decide
    exact hQ _ ⟨3, 0, u, _, _, ⟨vok i64d.2.2 i64d.2.1 hu, h3⟩, rfl⟩
  · exact hQ _ ⟨0, 0, ⟨⟨[]⟩⟩, _, _, ⟨vok i64d.2.1 i64d.2.1 (by decide), by assumption⟩, rfl⟩
end Go.Proofs.YtemfaiabbonpnaaDoor
