/- Functions of the program, each with what it returns, run by the evaluator; the conditions stand in the theorems. -/
import Derived.Test.YtngnflfjacappaaLFDisk2
namespace Go.Proofs.Ytngnflfjacappaa
open Go Go.Proofs.YtngnflfjacappaaW Go.Proofs
set_option linter.unusedVariables false
set_option linter.unusedSimpArgs false
set_option maxRecDepth 100000
set_option maxHeartbeats 8000000
theorem drawDiskWrite_q {xs : List (List Y)} (h : IsCode xs) : CallQ Try.prog 5 [.c (.y (.sl 1 xs))]
    (fun r => ∃ (d : Dsk) (q : Int) (t : ByteArray), SmallD d ∧ I64 q ∧ t.size ≤ 1000 ∧ r = ⟨.tup [(true, [.own 1 (d.secs.map rowS), .own 2 (d.cache.map Wr.row)]), (false, [.y (yN q)]), (false, [.y (yS t)])], []⟩) := by
  obtain ⟨M, hM⟩ := mapEx
  try simp only [hM]
  refine goQ Try.func5 rfl rfl rfl rfl fun pAdd pSub pMul pQuo pRem pAnd pOr pXor pAndNot pShl pShr pNeg pCompl pConv pLt pLe pEq pSlt pSle pSeq pCat pCatOk pSlen pSsub pSat pIadd pIsub pBnot pBeq pImin pImax pLlen pLsub pLapp pLset pLcopy pLenOk pBytes pRep hF Ca hC Q1 hQ => ?_
  cbv
  have cD := @disk_q
  simp only [hM] at cD
  refine callQ hC (source_q h) ?_
  rintro r ⟨m, z, _, _, ha, rfl⟩
  cbv
  refine callQ hC (cD ha m z) ?_
  rintro r ⟨d, a, m, hd, ha, rfl⟩
  cbv
  refine callQ hC (n_q ha m z 6 (by decide)) ?_
  rintro r ⟨q, a, m, h0, h1, ha, rfl⟩
  cbv
  have eq1 : pSub .i64 q 1 = q - 1 := subIs hF (by omega) (by omega)
  rw [eq1]
  have hq : I64 (q - 1) := ⟨by omega, by omega⟩
  obtain ⟨p, hp⟩ : ∃ p, p = q - 1 := ⟨_, rfl⟩
  rw [← hp] at hq ⊢
  clear hp eq1
  refine callQ hC (one_q ha m z 12 (by decide)) ?_
  rintro r ⟨b, a, m, ha, rfl⟩
  cbv
  cases b <;> try cbv
  all_goals (try (refine callQ hC (edge_q ha m z) ?_; rintro r ⟨p, a, m, hq, ha, rfl⟩; cbv))
  all_goals (repeat' (first
      | (refine And.intro ?_ ?_ <;> try cbv)
      | (refine callQ hC (n_q (by assumption) _ z _ (by decide)) ?_; rintro r ⟨q, a1, m1, h2, h3, h4, rfl⟩; try cbv)
      | (refine callQ hC (bytes_q (by assumption) _ z _ (by omega) (by omega)) ?_; rintro r ⟨t, a1, m1, h2, h4, rfl⟩; try cbv)))
  all_goals exact hQ _ ⟨d, _, _, hd, by assumption, by ((try simp only [Int.ofNat_eq_natCast] at *); omega), rfl⟩
theorem lwAt_q {xs : List (List Y)} (h : IsCode xs) (i most : Int) (h0 : 0 ≤ i) (hi : I64 i) (hm : most ≤ 4611686018427387904) : CallQ Try.prog 12 [.c (.y (.sl 1 xs)), aN i, aN most] (fun r => ∃ q, 0 ≤ q ∧ (q < most ∨ q = 0) ∧ r = N q) := by
  obtain ⟨l, hx, hl⟩ := h
  have hxl : xs.length = l.length := by rw [hx, bytesL, List.length_map]
  have hget : ∀ j, j < l.length → ∃ b : Int, 0 ≤ b ∧ b < 256 ∧ xs[j]? = some [Y.sc (.int .u8 b)] := fun j hj => by
    refine ⟨_, ?_, ?_, by rw [hx, bytesL, List.getElem?_map, List.getElem?_eq_getElem hj]; rfl⟩
    · exact Int.natCast_nonneg _
    · have := l[j].toNat_lt; omega
  clear hx
  obtain ⟨M, hM⟩ := mapEx
  try simp only [hM]
  refine goQ Try.func12 rfl rfl rfl rfl fun pAdd pSub pMul pQuo pRem pAnd pOr pXor pAndNot pShl pShr pNeg pCompl pConv pLt pLe pEq pSlt pSle pSeq pCat pCatOk pSlen pSsub pSat pIadd pIsub pBnot pBeq pImin pImax pLlen pLsub pLapp pLset pLcopy pLenOk pBytes pRep hF Ca hC Q1 hQ => ?_
  cbv
  have fin0 : Q1 (N 0) := hQ _ ⟨0, by omega, Or.inr rfl, rfl⟩
  refine brkI (fun h1 => ?_) (fun h1 => ?_) <;> try cbv
  · exact fin0
  have h1 := leF hF h1
  refine brkI (fun h2 => ?_) (fun h2 => ?_) <;> try cbv
  · exact fin0
  have h2 := eqF hF h2
  have el : pLlen xs = Int.ofNat l.length := (llenIs hF xs).trans (by rw [hxl]; rfl)
  rw [el] at h2
  have hl0 : 0 < l.length := by ((try simp only [Int.ofNat_eq_natCast] at *); omega)
  rw [el]
  refine brF (mkNe hF (by ((try simp only [Int.ofNat_eq_natCast] at *); omega))) ?_
  try cbv
  obtain ⟨k, rfl⟩ : ∃ k : Nat, i = Int.ofNat k := ⟨i.toNat, by ((try simp only [Int.ofNat_eq_natCast] at *); omega)⟩
  have er : pRem .i64 (Int.ofNat k) (Int.ofNat l.length) = Int.ofNat (k % l.length) := by
    have : prims.rem .i64 (Int.ofNat k) (Int.ofNat l.length) = Int.ofNat (k % l.length) := rfl
    rw [hF] at this; exact this
  rw [er]
  have hk := Nat.mod_lt k hl0
  obtain ⟨j, hj⟩ : ∃ j, j = k % l.length := ⟨_, rfl⟩
  rw [← hj] at hk ⊢
  obtain ⟨b, hb0, hb1, g⟩ := hget j hk
  refine ⟨_, ⟨Int.natCast_nonneg _, g⟩, ?_⟩
  cbv
  have ec : pConv .i64 b = b := by
    have : prims.conv .i64 b = b := wrap_i64 (by omega) (by omega)
    rw [hF] at this; exact this
  rw [ec]
  refine brF (mkNe hF (by omega)) ?_
  try cbv
  have e2 : pRem .i64 b most = b % most := by
    have : prims.rem .i64 b most = b % most := Int.tmod_eq_emod_of_nonneg hb0
    rw [hF] at this; exact this
  rw [e2]
  have p1 := Int.emod_nonneg b (show most ≠ 0 by omega)
  have p2 := Int.emod_lt_of_pos b (show 0 < most by omega)
  exact hQ _ ⟨b % most, p1, Or.inl p2, rfl⟩
end Go.Proofs.Ytngnflfjacappaa
