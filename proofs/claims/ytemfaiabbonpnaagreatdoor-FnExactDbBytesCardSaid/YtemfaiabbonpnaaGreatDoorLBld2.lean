/- Functions of the program, each with what it returns, run by the evaluator; the conditions stand in the theorems. -/
import Derived.Test.YtemfaiabbonpnaaGreatDoorLBld
namespace Go.Proofs.YtemfaiabbonpnaaGreatDoor
open Go Go.Proofs.YtemfaiabbonpnaaGreatDoorW Go.Proofs
set_option linter.unusedVariables false
set_option linter.unusedSimpArgs false
set_option maxRecDepth 100000
set_option maxHeartbeats 8000000
/-! strings.ReplaceAll of the byte 0 -/
theorem esc_app : ∀ a b : List UInt8, esc (a ++ b) = esc a ++ esc b
  | [], b => rfl
  | x :: a, b => by
    rw [List.cons_append, esc, esc, esc_app a b]
    split <;> rfl
theorem esc_no : ∀ {l : List UInt8}, l.count 0 = 0 → esc l = l
  | [], _ => rfl
  | x :: l, h => by
    have hx : x ≠ 0 := fun e => by subst e; rw [List.count_cons_self] at h; omega
    rw [List.count_cons_of_ne hx] at h
    rw [esc_n hx, esc_no h]
theorem split0 : ∀ {l : List UInt8}, 0 < l.count 0 → ∃ a r, l = a ++ 0 :: r ∧ a.count 0 = 0 ∧ r.count 0 + 1 = l.count 0
  | [], h => by simp at h
  | x :: l, h => by
    by_cases hx : x = 0
    · subst hx
      exact ⟨[], l, rfl, rfl, by rw [List.count_cons_self]⟩
    · rw [List.count_cons_of_ne hx] at h ⊢
      obtain ⟨a, r, rfl, h2, h3⟩ := split0 h
      exact ⟨x :: a, r, rfl, by rw [List.count_cons_of_ne hx]; exact h2, h3⟩
theorem bat (s : ByteArray) {i : Nat} (h : i < s.size) : s[i]! = s.data.toList[i]'(by simpa using h) := by
  rw [getElem!_pos s i h]; rfl
theorem fi_split {s : ByteArray} {a r : List UInt8} (h : s.data.toList = a ++ 0 :: r) (ha : a.count 0 = 0) : firstIdx s (0 : Int).toNat.toUInt8 = Int.ofNat a.length := by
  have hl : s.size = (a ++ 0 :: r).length := by rw [← h]; rfl
  have hl' : s.size = a.length + 1 + r.length := by rw [hl, List.length_append, List.length_cons]; omega
  have e : (List.range s.size).find? (fun i => s[i]! == (0 : Int).toNat.toUInt8) = some a.length := by
    rw [List.find?_range_eq_some]
    refine ⟨?_, by simp; omega, fun j hj => ?_⟩
    · rw [bat s (by omega)]
      simp only [h]
      rw [List.getElem_append_right (Nat.le_refl _)]
      simp
    · rw [bat s (by omega)]
      simp only [h]
      rw [List.getElem_append_left hj]
      have : a[j] ≠ 0 := fun e => by
        have : 0 ∈ a := e ▸ List.getElem_mem hj
        exact absurd (List.count_pos_iff.2 this) (by omega)
      simpa using this
  unfold firstIdx
  rw [e]; rfl
theorem fi_self : firstIdx z1 (0 : Int).toNat.toUInt8 = 0 := by decide
theorem ixz_ok (s : ByteArray) : CallOK Tryz.prog 148 [aS s, .c (.y (.sc (.int .u8 0)))] (N (firstIdx s (0 : Int).toNat.toUInt8)) := indexByte_ok rfl rfl rfl rfl rfl s 0
theorem ixz1_ok (s : ByteArray) : CallOK Tryz.prog 142 [aS s, .c (.y (.sc (.int .u8 0)))] (N (firstIdx s (0 : Int).toNat.toUInt8)) := by
  have h := ixz_ok s
  obtain ⟨q, hq⟩ : ∃ q, q = firstIdx s (0 : Int).toNat.toUInt8 := ⟨_, rfl⟩
  rw [← hq] at h ⊢
  obtain ⟨M, hM⟩ := mapEx
  try simp only [hM]
  refine go Tryz.func142 rfl rfl rfl rfl fun pAdd pSub pMul pQuo pRem pAnd pOr pXor pAndNot pShl pShr pNeg pCompl pConv pLt pLe pEq pSlt pSle pSeq pCat pCatOk pSlen pSsub pSat pIadd pIsub pBnot pBeq pImin pImax pLlen pLsub pLapp pLset pLcopy pLenOk pBytes pRep hF Ca hC r hr => ?_
  cbv
  refine callI hC h ?_
  cbv
  exact hr.symm
theorem sixz_ok (s : ByteArray) : CallOK Tryz.prog 135 [aS s, aS z1] (N (firstIdx s (0 : Int).toNat.toUInt8)) := by
  have h := ixz1_ok s
  have h1 : s = z1 → firstIdx s (0 : Int).toNat.toUInt8 = 0 := fun e => by rw [e]; exact fi_self
  obtain ⟨q, hq⟩ : ∃ q, q = firstIdx s (0 : Int).toNat.toUInt8 := ⟨_, rfl⟩
  rw [← hq] at h h1 ⊢
  obtain ⟨d, hd⟩ : ∃ d, d = z1 := ⟨_, rfl⟩
  rw [← hd] at h1 ⊢
  have d1 : prims.slen d = 1 := by rw [hd]; rfl
  have d2 : prims.sat d 0 = 0 := by rw [hd]; rfl
  obtain ⟨M, hM⟩ := mapEx
  try simp only [hM]
  refine go Tryz.func135 rfl rfl rfl rfl fun pAdd pSub pMul pQuo pRem pAnd pOr pXor pAndNot pShl pShr pNeg pCompl pConv pLt pLe pEq pSlt pSle pSeq pCat pCatOk pSlen pSsub pSat pIadd pIsub pBnot pBeq pImin pImax pLlen pLsub pLapp pLset pLcopy pLenOk pBytes pRep hF Ca hC r hr => ?_
  cbv
  rw [hF] at d1 d2
  have d1 : pSlen d = 1 := d1
  have d2 : pSat d 0 = 0 := d2
  refine brkI (fun h => ?_) (fun _ => ?_) <;> try cbv
  · exact absurd (eqT hF h) (by rw [show _ = (1 : Int) from d1]; decide)
  refine brkI (fun h => ?_) (fun _ => ?_) <;> try cbv
  · exact retN hr (h1 (seqT hF h).symm)
  refine brkI (fun _ => ?_) (fun h => ?_) <;> try cbv
  rotate_left
  · exact absurd d1 (eqF hF h)
  refine brT (leSelf hF 0) (brT (mkLt hF (by rw [show _ = (1 : Int) from d1]; decide)) ?_)
  try cbv
  rw [d2]
  refine callI hC h ?_
  cbv
  exact hr.symm
theorem indexz_ok (s : ByteArray) : CallOK Tryz.prog 118 [aS s, aS z1] (N (firstIdx s (0 : Int).toNat.toUInt8)) := by
  have h := sixz_ok s
  obtain ⟨q, hq⟩ : ∃ q, q = firstIdx s (0 : Int).toNat.toUInt8 := ⟨_, rfl⟩
  rw [← hq] at h ⊢
  obtain ⟨d, hd⟩ : ∃ d, d = z1 := ⟨_, rfl⟩
  rw [← hd] at h ⊢
  obtain ⟨M, hM⟩ := mapEx
  try simp only [hM]
  refine go Tryz.func118 rfl rfl rfl rfl fun pAdd pSub pMul pQuo pRem pAnd pOr pXor pAndNot pShl pShr pNeg pCompl pConv pLt pLe pEq pSlt pSle pSeq pCat pCatOk pSlen pSsub pSat pIadd pIsub pBnot pBeq pImin pImax pLlen pLsub pLapp pLset pLcopy pLenOk pBytes pRep hF Ca hC r hr => ?_
  cbv
  refine callI hC h ?_
  cbv
  exact hr.symm
end Go.Proofs.YtemfaiabbonpnaaGreatDoor
