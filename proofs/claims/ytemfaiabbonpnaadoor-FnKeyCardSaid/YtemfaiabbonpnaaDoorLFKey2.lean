/- Functions of the program, each with what it returns, run by the evaluator; the conditions stand in the theorems. -/
import Derived.Test.YtemfaiabbonpnaaDoorLFKey
namespace Go.Proofs.YtemfaiabbonpnaaDoor
open Go Go.Proofs.YtemfaiabbonpnaaDoorW Go.Proofs
set_option linter.unusedVariables false
set_option linter.unusedSimpArgs false
set_option maxRecDepth 100000
set_option maxHeartbeats 1600000
theorem lawKey_ok (code more : List UInt8) : CallOK Tryd.prog 3 [.c (.y (.sl 1 (bytesL code))), .c (.y (.sl 1 (bytesL more)))] (B true) := by
  have cc : code.length ≤ 1048576 → IsCode (bytesL code) := fun h => ⟨code, rfl, h⟩
  have cm : more.length ≤ 1048576 → IsCode (bytesL more) := fun h => ⟨more, rfl, h⟩
  have lc : (bytesL code).length = code.length := by rw [bytesL, List.length_map]
  have lm : (bytesL more).length = more.length := by rw [bytesL, List.length_map]
  obtain ⟨xs, hx⟩ : ∃ xs, xs = bytesL code := ⟨_, rfl⟩
  obtain ⟨ms, hy⟩ : ∃ xs, xs = bytesL more := ⟨_, rfl⟩
  rw [← hx] at cc lc ⊢
  rw [← hy] at cm lm ⊢
  clear hx hy
  have cT := @two4 xs
  have cP := @pair_ok
  have cX := @text_ok
  have cR := @drawKeyRead_q ms
  obtain ⟨M, hM⟩ := mapEx
  try simp only [hM]
  refine go Tryd.func3 rfl rfl rfl rfl fun pAdd pSub pMul pQuo pRem pAnd pOr pXor pAndNot pShl pShr pNeg pCompl pConv pLt pLe pEq pSlt pSle pSeq pCat pCatOk pSlen pSsub pSat pIadd pIsub pBnot pBeq pImin pImax pLlen pLsub pLapp pLset pLcopy pLenOk pBytes pRep hF Ca hC r hr => ?_
  cbv
  refine brkI (fun h => ?_) (fun h => ?_) <;> try cbv
  · exact hr.symm
  have h := ltF hF h
  rw [show pLlen xs = Int.ofNat code.length from (llenIs hF _).trans (by rw [lc]; rfl)] at h
  refine brkI (fun h2 => ?_) (fun h2 => ?_) <;> try cbv
  · exact hr.symm
  have h2 := ltF hF h2
  rw [show pLlen ms = Int.ofNat more.length from (llenIs hF _).trans (by rw [lm]; rfl)] at h2
  have cc := cc (by ((try simp only [Int.ofNat_eq_natCast] at *); omega))
  have cm := cm (by ((try simp only [Int.ofNat_eq_natCast] at *); omega))
  refine callQ4 hC (cT cc) (fun ys zs l1 l2 hx => ?_)
  cbv
  obtain ⟨x, y, r1, r2, c, hp⟩ := cP hx.1 hx.2
  clear hx
  refine callI hC hp.ik1 ?_
  cbv
  refine callI hC hp.ik2 ?_
  cbv
  refine callI hC hp.sk1 ?_
  cbv
  refine brkI (fun h3 => ?_) (fun h3 => ?_) <;> try cbv
  rotate_left
  · exact absurd rfl (seqF hF h3)
  refine callI hC hp.sk2 ?_
  cbv
  refine brkI (fun h4 => ?_) (fun h4 => ?_) <;> try cbv
  rotate_left
  · exact absurd rfl (seqF hF h4)
  refine callI hC hp.ic12 ?_
  cbv
  refine callI hC hp.sc12 ?_
  cbv
  refine brkI (fun h5 => ?_) (fun h5 => ?_) <;> try cbv
  rotate_left
  · exact absurd rfl (eqF hF h5)
  refine callI hC hp.ic21 ?_
  cbv
  refine callI hC hp.ic12 ?_
  cbv
  have en : pNeg .i64 c = -c := by
    have : pNeg .i64 c = IntKind.i64.wrap (0 - c) := by cases hF; rfl
    have hr := hp.rng
    rw [this, wrap_i64 (by omega) (by omega)]; omega
  rw [en]
  refine brkI (fun h6 => ?_) (fun h6 => ?_) <;> try cbv
  rotate_left
  · exact absurd rfl (eqF hF h6)
  refine callB hC hp.vr1 (fun hr1 => ?_) (fun hr1 => ?_) <;> try cbv
  · refine callB hC hp.vr2 (fun hr2 => ?_) (fun hr2 => ?_) <;> try cbv
    · have hlt := hp.lt hr1 hr2
      have hgt := hp.gt hr1 hr2
      have heq := hp.eq hr1 hr2
      have hno := hp.no
      obtain ⟨ks, c0, kf, k1, k2⟩ := hp.back hr1
      rw [hF] at hlt hgt heq hno
      refine brkI (fun h7 => ?_) (fun h7 => ?_) <;> try cbv
      all_goals
        refine brkI (fun h8 => ?_) (fun h8 => ?_) <;> try cbv
      all_goals
        refine callI hC hp.ic12 ?_
        cbv
      all_goals
        refine brkI (fun h9 => ?_) (fun h9 => ?_) <;> try cbv
      all_goals first
        | (exact absurd (hlt h7) (eqF hF h9))
        | (exact absurd (hgt h8) (eqF hF h9))
        | (exact absurd (heq h7 h8) (eqF hF h9))
        | (exact absurd (hno h7) (by rw [h8]; decide))
        | skip
      all_goals
        refine callI hC k1 ?_
        cbv
        refine And.intro kf ?_
        try cbv
        refine callB hC k2 (fun hh => ?_) (fun hh => by cases hh)
        try cbv
      all_goals
        refine callQ1 hC (cR cm) (fun u hu => ?_)
        cbv
        obtain ⟨us, c5, hT⟩ := cX u hu
        refine callI hC hT.ir ?_
        cbv
        refine And.intro hT.fl ?_
        try cbv
        refine callI hC hT.sr ?_
        cbv
        refine brT (mkEq hF rfl) ?_
        try cbv
        obtain ⟨t5, ht1, ht2⟩ := hT.kb
        refine brkI (fun g1 => ?_) (fun g1 => ?_) <;> try cbv
        · refine callI hC ht1 ?_
          cbv
          have g2 : t5 = u := ht2 (eqT hF g1)
          refine brT (mkSeq hF g2) ?_
          try cbv
          exact hr.symm
        · exact hr.symm
    · refine callQ1 hC (cR cm) (fun u hu => ?_)
      cbv
      obtain ⟨us, c5, hT⟩ := cX u hu
      refine callI hC hT.ir ?_
      cbv
      refine And.intro hT.fl ?_
      try cbv
      refine callI hC hT.sr ?_
      cbv
      refine brT (mkEq hF rfl) ?_
      try cbv
      obtain ⟨t5, ht1, ht2⟩ := hT.kb
      refine brkI (fun g1 => ?_) (fun g1 => ?_) <;> try cbv
      · refine callI hC ht1 ?_
        cbv
        have g2 : t5 = u := ht2 (eqT hF g1)
        refine brT (mkSeq hF g2) ?_
        try cbv
        exact hr.symm
      · exact hr.symm
  · refine callQ1 hC (cR cm) (fun u hu => ?_)
    cbv
    obtain ⟨us, c5, hT⟩ := cX u hu
    refine callI hC hT.ir ?_
    cbv
    refine And.intro hT.fl ?_
    try cbv
    refine callI hC hT.sr ?_
    cbv
    refine brT (mkEq hF rfl) ?_
    try cbv
    obtain ⟨t5, ht1, ht2⟩ := hT.kb
    refine brkI (fun g1 => ?_) (fun g1 => ?_) <;> try cbv
    · refine callI hC ht1 ?_
      cbv
      have g2 : t5 = u := ht2 (eqT hF g1)
      refine brT (mkSeq hF g2) ?_
      try cbv
      exact hr.symm
    · exact hr.symm
end Go.Proofs.YtemfaiabbonpnaaDoor
