/- Functions of the program, each with what it returns, run by the evaluator; the conditions stand in the theorems. -/
import Derived.Test.YthaelohccopgjaaLTrS
namespace Go.Proofs.Ythaelohccopgjaa
open Go Go.Proofs.YthaelohccopgjaaW Go.Proofs
set_option linter.unusedVariables false
set_option linter.unusedSimpArgs false
set_option maxRecDepth 100000
set_option maxHeartbeats 8000000
/-- The rows of a tree. -/
structure RowsOf (u : Tr) (ks vs zs : List (List Y)) : Prop where
  ks : ks = u.keys.map rowS
  vs : vs = u.vals.map rowS
  zs : zs = u.kids.map Tr.row
theorem tree5 {xs : List (List Y)} {a : Int} (h : SrcAt xs a) (m z : Int) (hz0 : 0 ≤ z) (hz1 : z ≤ 12) :
    CallQ Try.prog 34 [.io (srcC xs a m z)] (fun r => ∃ ks vs zs a m, ((∃ u : Tr, Tr.Bd 1048576 u ∧ RowsOf u ks vs zs) ∧ SrcAt xs a) ∧ r = ⟨.agg [.own 1 ks, .own 1 vs, .own 3 zs], [srcC xs a m z]⟩) :=
  CallQ.mono (tree3 h m z hz0 hz1) fun r ⟨u, a, m, h1, h2⟩ => ⟨_, _, _, a, m, ⟨⟨u, h1.1, ⟨rfl, rfl, rfl⟩⟩, h1.2⟩, h2⟩
theorem drawR_q {xs : List (List Y)} (h : IsCode xs) : CallQ Try.prog 29 [.c (.y (.sl 1 xs))] (fun r => ∃ ks vs zs low high, (∃ u : Tr, Tr.Bd 1048576 u ∧ RowsOf u ks vs zs) ∧ r = ⟨.tup [(true, [.own 1 ks, .own 1 vs, .own 3 zs]), (false, [.y (yS low)]), (false, [.y (yS high)])], []⟩) := by
  obtain ⟨M, hM⟩ := mapEx
  try simp only [hM]
  refine goQ Try.func29 rfl rfl rfl rfl fun pAdd pSub pMul pQuo pRem pAnd pOr pXor pAndNot pShl pShr pNeg pCompl pConv pLt pLe pEq pSlt pSle pSeq pCat pCatOk pSlen pSsub pSat pIadd pIsub pBnot pBeq pImin pImax pLlen pLsub pLapp pLset pLcopy pLenOk pBytes pRep hF Ca hC Q1 hQ => ?_
  cbv
  refine callQ2 hC (source2 h) (fun m z hx => ?_)
  cbv
  obtain ⟨z0, z1, s0⟩ := hx
  refine callQ5 hC (tree5 s0 m z z0 z1) (fun ks vs zs a1 m1 hx => ?_)
  cbv
  obtain ⟨hu, s1⟩ := hx
  refine callQ3 hC (key3 s1 m1 z) (fun low a2 m2 hx => ?_)
  cbv
  obtain ⟨k1, s2⟩ := hx
  repeat' (first
    | (refine And.intro ?_ ?_ <;> try cbv)
    | (refine callQ3 hC (key3 s2 _ _) (fun high a3 m3 hx => ?_); cbv; obtain ⟨k2, s3⟩ := hx))
  all_goals exact hQ _ ⟨ks, vs, zs, low, high, hu, rfl⟩
theorem iTreeRange_ok (t : Tr) (low high : ByteArray) (hb : Tr.Bd 1048576 t) : CallOK Try.prog 23 [.agg [.y (.sl 1 (t.keys.map rowS)), .y (.sl 1 (t.vals.map rowS)), .y (.sl 3 (t.kids.map Tr.row))], aS low, aS high] ⟨.c (.own 1 ((rangeT t low high).map rowS)), []⟩ := by
  have c0 := iTreeRight_ok t hb
  obtain ⟨rr, hrr⟩ : ∃ r : Res, r = ⟨.c (.own 1 ((rangeT t low high).map rowS)), []⟩ := ⟨_, rfl⟩
  rw [← hrr]
  have hq : rangeT t low high = if tooLong low || tooLong high || !rightT t then [] else rng (deepT 13 t) t low high := rfl
  have cK : rightT t = true → CallOK Try.prog 52 [.agg [.y (.sl 1 (t.keys.map rowS)), .y (.sl 1 (t.vals.map rowS)), .y (.sl 3 (t.kids.map Tr.row))], aS low, aS high] ⟨.c (.own 1 ((rng (deepT 13 t) t low high).map rowS)), []⟩ := fun h => by
    obtain ⟨d, hd, d1, d2, hN, hS, hZ⟩ := right_nd h
    exact iRanged_ok (deepT 13 t) 0 t low high (hd ▸ hN) (by omega) (by rw [← hd]; exact rng_small hN d2)
  obtain ⟨rx, hrx⟩ : ∃ r : List (List Y), r = (rng (deepT 13 t) t low high).map rowS := ⟨_, rfl⟩
  rw [← hrx] at cK
  have hq2 : (rangeT t low high).map rowS = if tooLong low || tooLong high || !rightT t then [] else rx := by
    rw [hq, hrx]; split <;> rfl
  rw [hq2] at hrr
  clear hq hq2 hrx
  obtain ⟨b, hb'⟩ : ∃ b, b = rightT t := ⟨_, rfl⟩
  rw [← hb'] at c0 cK hrr
  obtain ⟨M, hM⟩ := mapEx
  try simp only [hM]
  refine go Try.func23 rfl rfl rfl rfl fun pAdd pSub pMul pQuo pRem pAnd pOr pXor pAndNot pShl pShr pNeg pCompl pConv pLt pLe pEq pSlt pSle pSeq pCat pCatOk pSlen pSsub pSat pIadd pIsub pBnot pBeq pImin pImax pLlen pLsub pLapp pLset pLcopy pLenOk pBytes pRep hF Ca hC r hr => ?_
  cbv
  refine callB hC (isLong_ok [low, high] (by simp)) (fun h => ?_) (fun h => ?_) <;> try cbv
  all_goals rw [List.any_cons, List.any_cons, List.any_nil, Bool.or_false] at h
  · rw [h, Bool.true_or, if_pos rfl] at hrr
    rw [hr, hrr]
  · rw [h, Bool.false_or] at hrr
    refine callB hC (by have hh := c0; (try simp only [hM] at hh); exact hh) (fun h3 => ?_) (fun h3 => ?_) <;> try cbv
    · subst h3
      refine callI hC (by have hh := cK rfl; (try simp only [hM] at hh); exact hh) ?_
      cbv
      rw [hr, hrr]; rfl
    · subst h3
      rw [hr, hrr]; rfl
/-! ## The law's facts -/
theorem range_in {t : Tr} {low high k : ByteArray} (h : k ∈ rangeT t low high) : inR low high k = true ∧ outCode t k = 0 := by
  rw [rangeT] at h
  split at h
  · simp at h
  rename_i hh
  have hr : rightT t = true := by
    cases e : rightT t with
    | true => rfl
    | false => rw [e] at hh; simp at hh
  obtain ⟨d, hd, d1, d2, hN, hS, hZ⟩ := right_nd hr
  rw [← hd] at h
  obtain ⟨q, hq, rfl⟩ := List.mem_map.1 h
  obtain ⟨h1, h2⟩ := List.mem_filter.1 hq
  refine ⟨h2, ?_⟩
  have hs : tooLong q.1 = false := decide_eq_false (by have := (hZ q h1).1; omega)
  have hg : (getT (deepT 13 t) t q.1).isSome = true := by rw [← hd]; exact (has_iff hN hS).2 ⟨q, h1, rfl⟩
  rw [outCode, hs, hr, hg]; rfl
theorem range_srt {t : Tr} {low high : ByteArray} : (rangeT t low high).Pairwise fun a b => ltS a b = true := by
  rw [rangeT]
  split
  · exact List.Pairwise.nil
  rename_i hh
  have hr : rightT t = true := by
    cases e : rightT t with
    | true => rfl
    | false => rw [e] at hh; simp at hh
  obtain ⟨d, hd, d1, d2, hN, hS, hZ⟩ := right_nd hr
  rw [← hd, rng, rngL, List.pairwise_map]
  exact List.Pairwise.filter _ hS
theorem range_len {t : Tr} {low high : ByteArray} : (rangeT t low high).length ≤ 2147483648 := by
  rw [rangeT]
  split
  · simp
  rename_i hh
  have hr : rightT t = true := by
    cases e : rightT t with
    | true => rfl
    | false => rw [e] at hh; simp at hh
  obtain ⟨d, hd, d1, d2, hN, hS, hZ⟩ := right_nd hr
  rw [← hd]; exact rng_small hN d2
theorem right_high {t : Tr} (hr : rightT t = true) : ∃ h : Nat, highT t = (h : Int) ∧ h ≤ 12 ∧ (2 : Int) ^ h - 1 ≤ sizeT t := by
  obtain ⟨d, hd, d1, d2, hN, hS, hZ⟩ := right_nd hr
  have h0 : 0 ≤ heightT t := by rw [right_is] at hr; exact of_decide_eq_true hr
  have hsz : sizeT t = Int.ofNat (flat d t).length := by
    rw [sizeT, if_pos hr]
    exact cnt_flat d2 t.le_ex.choose_spec hN
  rw [highT, if_pos h0, hsz]
  by_cases hn : t.keys.length = 0
  · have hk := right_keys hr hn
    have hv : t.vals.length = 0 := by
      cases d with
      | zero => exact hN.elim
      | succ d => have := hN.lens'; omega
    refine ⟨0, ?_, by omega, ?_⟩
    · rw [heightT, if_pos hn, if_pos (by rw [hv, hk]; rfl)]; rfl
    · simp
  · refine ⟨d, by rw [height_deep h0 hn, hd], d2, ?_⟩
    have h1 := flat_ge (hN.low (lo' := 1) (by omega))
    have h2 : ((2 ^ d : Nat) : Int) ≤ (((flat d t).length + 1 : Nat) : Int) := Int.ofNat_le.2 h1
    have h3 : ((2 ^ d : Nat) : Int) = (2 : Int) ^ d := by simp
    rw [← h3]
    simp only [Int.ofNat_eq_natCast]
    omega
end Go.Proofs.Ythaelohccopgjaa
