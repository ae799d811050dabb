/- Functions of the program, each with what it returns, run by the evaluator; the conditions stand in the theorems. -/
import Derived.Test.YtemfaiabbonpnaaDoorLDrV2
import Derived.Test.YtemfaiabbonpnaaDoorLKBy2
namespace Go.Proofs.YtemfaiabbonpnaaDoor
open Go Go.Proofs.YtemfaiabbonpnaaDoorW Go.Proofs
set_option linter.unusedVariables false
set_option linter.unusedSimpArgs false
set_option maxRecDepth 100000
set_option maxHeartbeats 800000
theorem src3 {xs : List (List Y)} (h : IsCode xs) : CallQ Tryd.prog 18 [.c (.y (.sl 1 xs))] (fun r => ∃ m z, (0 ≤ z ∧ z ≤ 12 ∧ SrcAt xs 0) ∧ r = ⟨.c (.own 0 [[.sl 1 xs, yN 0, .sc (.int .u64 m), yN z]]), []⟩) :=
  CallQ.mono (source_q h) fun r ⟨m, z, h1, h2, h3, h4⟩ => ⟨m, z, ⟨h1, h2, h3⟩, h4⟩
theorem vals4 {xs : List (List Y)} {a : Int} (h : SrcAt xs a) (m z : Int) : CallQ Tryd.prog 19 [.io (srcC xs a m z)] (fun r => ∃ (zs : List (List Y)) (l : List Val) (a m : Int), (zs = l.map Val.row ∧ l.length ≤ 20 ∧ (∀ v ∈ l, VOk v) ∧ SrcAt xs a) ∧ r = ⟨.c (.own 3 zs), [srcC xs a m z]⟩) :=
  CallQ.mono (l02Values_q h m z) fun r ⟨l, a, m, ⟨h1, h2, h3⟩, h4⟩ => ⟨_, l, a, m, ⟨rfl, h1, h2, h3⟩, h4⟩
abbrev TwoQ (r : Res) : Prop := ∃ l1 l2 : List Val, (l1.length ≤ 20 ∧ l2.length ≤ 20 ∧ (∀ v ∈ l1, VOk v) ∧ (∀ v ∈ l2, VOk v)) ∧ r = ⟨.tup [(false, [.own 3 (l1.map Val.row)]), (false, [.own 3 (l2.map Val.row)])], []⟩
theorem drawCompare_q {xs : List (List Y)} (h : IsCode xs) : CallQ Tryd.prog 5 [.c (.y (.sl 1 xs))] TwoQ := by
  have hVs := @vals4
  have hV := @l02Value_q
  have hS := src3 h
  obtain ⟨M, hM⟩ := mapEx
  try simp only [hM]
  refine goQ Tryd.func5 rfl rfl rfl rfl fun pAdd pSub pMul pQuo pRem pAnd pOr pXor pAndNot pShl pShr pNeg pCompl pConv pLt pLe pEq pSlt pSle pSeq pCat pCatOk pSlen pSsub pSat pIadd pIsub pBnot pBeq pImin pImax pLlen pLsub pLapp pLset pLcopy pLenOk pBytes pRep hF Ca hC Q1 hQ => ?_
  cbv
  refine callQ2 hC hS (fun m z hx => ?_)
  cbv
  obtain ⟨z0, z1, s0⟩ := hx
  refine callQ4 hC (hVs s0 m z) (fun ys l1 a1 m1 hx => ?_)
  cbv
  obtain ⟨hy, k1, v1, s1⟩ := hx
  refine callQ4 hC (hVs s1 m1 z) (fun zs l2 a2 m2 hx => ?_)
  cbv
  obtain ⟨hz, k2, v2, s2⟩ := hx
  refine callQ3 hC (one3 s2 m2 z 3 (by decide)) (fun b a3 m3 s3 => ?_)
  cbv
  cases b <;> try cbv
  · refine hQ _ ⟨l1, l2, ⟨k1, k2, v1, v2⟩, ?_⟩
    rw [← hy, ← hz]; rfl
  have hyl : ys.length = l1.length := by rw [hy, List.length_map]
  have el : pLlen ys = Int.ofNat l1.length := (llenIs hF _).trans (by rw [hyl]; rfl)
  refine brT (lenOkIs hF (by have := el; rw [show _ = Int.ofNat l1.length from el]; ((try simp only [Int.ofNat_eq_natCast] at *); omega))) ?_
  try cbv
  refine brkI (fun h => ?_) (fun h => ?_) <;> try cbv
  · refine callQ3 hC (one3 s3 m3 z 2 (by decide)) (fun b a4 m4 s4 => ?_)
    cbv
    cases b <;> try cbv
    · refine hQ _ ⟨l1, l1, ⟨k1, k1, v1, v1⟩, ?_⟩
      rw [← hy]; rfl
    refine callQ5 hC (hV s4 m4 z) (fun vk vn vs a5 m5 hx => ?_)
    cbv
    obtain ⟨hv3, s5⟩ := hx
    rw [el] at h ⊢
    have h := ltT hF h
    obtain ⟨n, hn⟩ : ∃ n : Nat, l1.length = n + 1 := ⟨l1.length - 1, by ((try simp only [Int.ofNat_eq_natCast] at *); omega)⟩
    have e : pSub .i64 (Int.ofNat l1.length) 1 = Int.ofNat n := by
      have : pSub .i64 (Int.ofNat l1.length) 1 = Int.ofNat l1.length - 1 := subIs hF (by ((try simp only [Int.ofNat_eq_natCast] at *); omega)) (by ((try simp only [Int.ofNat_eq_natCast] at *); omega))
      rw [this, hn]; ((try simp only [Int.ofNat_eq_natCast] at *); omega)
    rw [e]
    refine brT (mkLe hF (by ((try simp only [Int.ofNat_eq_natCast] at *); omega))) (brT (mkLt hF (by ((try simp only [Int.ofNat_eq_natCast] at *); omega))) ?_)
    have hnl : n < l1.length := by omega
    refine ⟨(l1[n]).row, ⟨Int.natCast_nonneg n, by rw [hy, show (Int.ofNat n).toNat = n from rfl, List.getElem?_map, List.getElem?_eq_getElem hnl]; rfl⟩, ?_⟩
    obtain ⟨u, hu⟩ : ∃ u, u = l1[n] := ⟨_, rfl⟩
    rw [← hu]
    cbv
    refine hQ _ ⟨l1, l1.set n ⟨vk, vn, vs⟩, ⟨k1, by rw [List.length_set]; exact k1, v1, fun v hv => ?_⟩, ?_⟩
    · rcases List.mem_or_eq_of_mem_set hv with hv | hv
      · exact v1 v hv
      · rw [hv]; exact hv3
    · have e3 : pLset ys (Int.ofNat n) [yN vk, yN vn, yS vs] = (l1.set n ⟨vk, vn, vs⟩).map Val.row := by
        have : pLset ys (Int.ofNat n) [yN vk, yN vn, yS vs] = ys.set n [yN vk, yN vn, yS vs] := by cases hF; rfl
        rw [this, hy, List.map_set]; rfl
      rw [← e3, ← hy]; rfl
  · refine hQ _ ⟨l1, l1, ⟨k1, k1, v1, v1⟩, ?_⟩
    rw [← hy]; rfl
end Go.Proofs.YtemfaiabbonpnaaDoor
