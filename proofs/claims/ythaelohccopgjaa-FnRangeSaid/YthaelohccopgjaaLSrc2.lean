/- Functions of the program, each with what it returns, run by the evaluator; the conditions stand in the theorems. -/
import Derived.Test.YthaelohccopgjaaLSrc
namespace Go.Proofs.Ythaelohccopgjaa
open Go Go.Proofs.YthaelohccopgjaaW Go.Proofs
set_option linter.unusedVariables false
set_option linter.unusedSimpArgs false
set_option maxRecDepth 100000
set_option maxHeartbeats 8000000
theorem one_ok (l : List UInt8) (a : Nat) (m z most : Int) (hl : l.length ≤ 1048576) (ha : a ≤ l.length) (hm : most ≤ 4611686018427387904) :
    CallOK Try.prog 63 [.io (srcC (bytesL l) (Int.ofNat a) m z), aN most] ⟨.c (.y (yB (decide (nRes l a m most = 0)))), [srcC (bytesL l) (Int.ofNat (nAt l a most)) (nMix m most) z]⟩ := by
  have c1 := n_ok l a m z most hl ha hm
  obtain ⟨q, hq⟩ : ∃ q, q = nRes l a m most := ⟨_, rfl⟩
  obtain ⟨a', ha'⟩ : ∃ q, q = nAt l a most := ⟨_, rfl⟩
  obtain ⟨m', hm'⟩ : ∃ q, q = nMix m most := ⟨_, rfl⟩
  obtain ⟨xs, hx⟩ : ∃ xs, xs = bytesL l := ⟨_, rfl⟩
  rw [← hq, ← ha', ← hm', ← hx] at c1 ⊢
  obtain ⟨qb, hqb⟩ : ∃ q', q' = decide (q = 0) := ⟨_, rfl⟩
  rw [← hqb]
  obtain ⟨M, hM⟩ := mapEx
  try simp only [hM]
  refine go Try.func63 rfl rfl rfl rfl fun pAdd pSub pMul pQuo pRem pAnd pOr pXor pAndNot pShl pShr pNeg pCompl pConv pLt pLe pEq pSlt pSle pSeq pCat pCatOk pSlen pSsub pSat pIadd pIsub pBnot pBeq pImin pImax pLlen pLsub pLapp pLset pLcopy pLenOk pBytes pRep hF Ca hC r hr => ?_
  cbv
  refine callI hC c1 ?_
  cbv
  refine brkI (fun h => ?_) (fun h => ?_) <;> try cbv
  · have : qb = true := by rw [hqb]; exact decide_eq_true (eqT hF h)
    rw [this] at hr; exact hr.symm
  · have : qb = false := by rw [hqb]; exact decide_eq_false (eqF hF h)
    rw [this] at hr; exact hr.symm
def mixAt (l : List UInt8) : Nat → Int
  | 0 => 88172645463325252
  | i + 1 => prims.mul .u64 (prims.xor .u64 (mixAt l i) (prims.conv .u64 (byteN l i))) 1099511628211
def srcZ (l : List UInt8) : Int := if 12 < prims.quo .i64 (Int.ofNat l.length) 20 then 12 else prims.quo .i64 (Int.ofNat l.length) 20
theorem source_ok (l : List UInt8) (hl : l.length ≤ 1048576) : CallOK Try.prog 33 [.c (.y (.sl 1 (bytesL l)))] ⟨.c (.own 0 [[.sl 1 (bytesL l), yN 0, .sc (.int .u64 (mixAt l (min l.length 64))), yN (srcZ l)]]), []⟩ := by
  obtain ⟨m', hm'⟩ : ∃ q, q = mixAt l (min l.length 64) := ⟨_, rfl⟩
  obtain ⟨z', hz'⟩ : ∃ q, q = srcZ l := ⟨_, rfl⟩
  obtain ⟨xs, hx⟩ : ∃ xs, xs = bytesL l := ⟨_, rfl⟩
  have hxl : xs.length = l.length := by rw [hx, bytesL, List.length_map]
  have hget : ∀ i (h : i < l.length), xs[i]? = some [.sc (.int .u8 (byteN l i))] := fun i h => by
    rw [hx, bytesL, List.getElem?_map, List.getElem?_eq_getElem h, byteN, getD_at h]; rfl
  rw [← hm', ← hz', ← hx]
  rw [srcZ] at hz'
  clear hx
  obtain ⟨M, hM⟩ := mapEx
  try simp only [hM]
  refine go Try.func33 rfl rfl rfl rfl fun pAdd pSub pMul pQuo pRem pAnd pOr pXor pAndNot pShl pShr pNeg pCompl pConv pLt pLe pEq pSlt pSle pSeq pCat pCatOk pSlen pSsub pSat pIadd pIsub pBnot pBeq pImin pImax pLlen pLsub pLapp pLset pLcopy pLenOk pBytes pRep hF Ca hC r hr => ?_
  cbv
  have el : pLlen xs = Int.ofNat l.length := (llenIs hF xs).trans (by rw [hxl]; rfl)
  refine loop_u (α := Nat × Int) (fun s st => (st.n 4 (Int.ofNat s.1)).ob 7000 (.bx [.y (.sl 1 xs), .y (yN 0), .y (.sc (.int .u64 s.2)), .y (yN 0)])) (fun s => s.1 ≤ l.length ∧ s.1 ≤ 64 ∧ s.2 = mixAt l s.1) (fun s => l.length - s.1) (0, 88172645463325252) rfl ⟨by omega, by omega, rfl⟩ (fun K' hK I s hi ih => ?_)
  obtain ⟨i, mm⟩ := s
  obtain ⟨hi, hi2, hmm⟩ := hi
  dsimp only at hi hi2 hmm
  cbv
  rw [el]
  have done : i = l.length ∨ i = 64 → mm = m' := fun h => by rw [hm', hmm]; congr 1; omega
  have rest : ∀ K : Prop, True := fun _ => trivial
  refine brkI (fun h => ?_) (fun h => ?_) <;> try cbv
  · have h := ltT hF h
    have hs : i < l.length := by ((try simp only [Int.ofNat_eq_natCast] at *); omega)
    refine brkI (fun h1 => ?_) (fun h1 => ?_) <;> try cbv
    · have h1 := ltT hF h1
      obtain ⟨bv, hbv⟩ : ∃ b, b = byteN l i := ⟨_, rfl⟩
      have hg := hget i hs
      rw [← hbv] at hg
      refine ⟨[.sc (.int .u8 bv)], ⟨Int.natCast_nonneg _, hg⟩, ?_⟩
      cbv
      conv => arg 1; cbv
      have e1 : pAdd .i64 (Int.ofNat i) 1 = Int.ofNat (i + 1) := add1Is hF (by omega)
      have e2 : pMul .u64 (pXor .u64 mm (pConv .u64 bv)) 1099511628211 = mixAt l (i + 1) := by
        rw [mixAt, ← hmm, ← hbv, hF]
      rw [e1, e2]
      exact ih (i + 1, _) _ ⟨by dsimp only; ((try simp only [Int.ofNat_eq_natCast] at *); omega), by dsimp only; ((try simp only [Int.ofNat_eq_natCast] at *); omega), rfl⟩ (by dsimp only; ((try simp only [Int.ofNat_eq_natCast] at *); omega)) rfl
    · have h1 := ltF hF h1
      rw [done (Or.inr (by ((try simp only [Int.ofNat_eq_natCast] at *); omega)))]
      refine hK _ _ ?_
      cbv
      rw [el]
      refine brF (mkNe hF (by decide)) ?_
      try cbv
      have ez : pQuo .i64 (Int.ofNat l.length) 20 = prims.quo .i64 (Int.ofNat l.length) 20 := by rw [hF]
      rw [← ez] at hz'
      refine brkI (fun h2 => ?_) (fun h2 => ?_) <;> try cbv
      · rw [if_pos (ltT hF h2)] at hz'
        rw [hz'] at hr
        exact hr.symm
      · rw [if_neg (by have := ltF hF h2; omega)] at hz'
        rw [hz'] at hr
        exact hr.symm
  · have h := ltF hF h
    rw [done (Or.inl (by ((try simp only [Int.ofNat_eq_natCast] at *); omega)))]
    refine hK _ _ ?_
    cbv
    rw [el]
    refine brF (mkNe hF (by decide)) ?_
    try cbv
    have ez : pQuo .i64 (Int.ofNat l.length) 20 = prims.quo .i64 (Int.ofNat l.length) 20 := by rw [hF]
    rw [← ez] at hz'
    refine brkI (fun h2 => ?_) (fun h2 => ?_) <;> try cbv
    · rw [if_pos (ltT hF h2)] at hz'
      rw [hz'] at hr
      exact hr.symm
    · rw [if_neg (by have := ltF hF h2; omega)] at hz'
      rw [hz'] at hr
      exact hr.symm
end Go.Proofs.Ythaelohccopgjaa
