/- Functions of the program, each with what it returns, run by the evaluator; the conditions stand in the theorems. -/
import Derived.Test.YtemfaiabbonpnaaDoorLDrV3
namespace Go.Proofs.YtemfaiabbonpnaaDoor
open Go Go.Proofs.YtemfaiabbonpnaaDoorW Go.Proofs
set_option linter.unusedVariables false
set_option linter.unusedSimpArgs false
set_option maxRecDepth 100000
set_option maxHeartbeats 800000
theorem sat_byte (s : ByteArray) (i : Int) : ∃ b : UInt8, prims.sat s i = (b.toNat : Int) := by
  show ∃ b : UInt8, ((s[i.toNat]?).map fun b => (b.toNat : Int)).getD 0 = _
  cases s[i.toNat]? with
  | none => exact ⟨0, rfl⟩
  | some b => exact ⟨b, rfl⟩
theorem ssub_le (s : ByteArray) (a b : Int) : (prims.ssub s a b).size ≤ s.size := by
  show (s.extract a.toNat b.toNat).size ≤ _
  rw [ByteArray.size_extract]; omega
theorem spoil_q {xs : List (List Y)} {a : Int} (h : SrcAt xs a) (m z : Int) (t : ByteArray) (ht : t.size ≤ 100000) :
    CallQ Tryd.prog 32 [.io (srcC xs a m z), aS t] (fun r => ∃ (u : ByteArray) (a m : Int), (u.size ≤ t.size + 1 ∧ SrcAt xs a) ∧ r = ⟨.c (.y (yS u)), [srcC xs a m z]⟩) := by
  obtain ⟨M, hM⟩ := mapEx
  try simp only [hM]
  refine goQ Tryd.func32 rfl rfl rfl rfl fun pAdd pSub pMul pQuo pRem pAnd pOr pXor pAndNot pShl pShr pNeg pCompl pConv pLt pLe pEq pSlt pSle pSeq pCat pCatOk pSlen pSsub pSat pIadd pIsub pBnot pBeq pImin pImax pLlen pLsub pLapp pLset pLcopy pLenOk pBytes pRep hF Ca hC Q1 hQ => ?_
  cbv
  have es : pSlen t = Int.ofNat t.size := slenIs hF t
  have ess : ∀ a b, (pSsub t a b).size ≤ t.size := fun a b => by cases hF; exact ssub_le t a b
  have ecat : ∀ a b : ByteArray, (pCat a b).size = a.size + b.size := fun a b => by
    have : pCat a b = a ++ b := catIs hF a b
    rw [this, ByteArray.size_append]
  obtain ⟨sz, hsz⟩ : ∃ sz, sz = t.size := ⟨_, rfl⟩
  rw [← hsz] at es ess ht
  rw [es]
  have e1 : pAdd .i64 (Int.ofNat sz) 1 = Int.ofNat (sz + 1) := add1Is hF (by omega)
  rw [e1]
  refine callQ3 hC (n3 h m z (Int.ofNat (sz + 1)) (by ((try simp only [Int.ofNat_eq_natCast] at *); omega))) (fun q a1 m1 hx => ?_)
  cbv
  obtain ⟨h1, h2, h3⟩ := hx
  obtain ⟨k, rfl⟩ : ∃ k : Nat, q = Int.ofNat k := ⟨q.toNat, by ((try simp only [Int.ofNat_eq_natCast] at *); omega)⟩
  have hk : k ≤ sz := by rcases h2 with h2 | h2 <;> ((try simp only [Int.ofNat_eq_natCast] at *); omega)
  refine callQ3 hC (n3 h3 m1 z 17 (by decide)) (fun q2 a2 m2 hx => ?_)
  cbv
  obtain ⟨h4, h5, h6⟩ := hx
  refine brT (mkLe hF h4) (brT (mkLt hF ?_) ?_)
  · rw [show pSlen _ = _ from slenIs hF _]
    refine Int.lt_of_lt_of_le (b := 17) (by rcases h5 with h5 | h5 <;> omega) (by decide)

  obtain ⟨b, hb⟩ := sat_byte ⟨⟨[32, 10, 48, 97, 45, 110, 44, 58, 93, 255, 40, 120, 126, 49, 128, 225, 59]⟩⟩ q2
  rw [hF] at hb
  have hb : pSat ⟨⟨[32, 10, 48, 97, 45, 110, 44, 58, 93, 255, 40, 120, 126, 49, 128, 225, 59]⟩⟩ q2 = (b.toNat : Int) := hb
  rw [hb]
  obtain ⟨c, hc⟩ : ∃ c : ByteArray, c = ⟨⟨[b]⟩⟩ := ⟨_, rfl⟩
  have hcs : c.size = 1 := by rw [hc]; rfl
  refine ⟨c, ⟨by rw [hc]; rfl⟩, ?_⟩
  clear hc hb
  cbv
  rw [es]
  have ek1 : pAdd .i64 (Int.ofNat k) 1 = Int.ofNat (k + 1) := add1Is hF (by omega)
  have L1 : pLe 0 (Int.ofNat k) = true := mkLe hF (by ((try simp only [Int.ofNat_eq_natCast] at *); omega))
  have L2 : pLe (Int.ofNat k) (Int.ofNat sz) = true := mkLe hF (by ((try simp only [Int.ofNat_eq_natCast] at *); omega))
  have L4 : pLe 0 (Int.ofNat (k + 1)) = true := mkLe hF (by ((try simp only [Int.ofNat_eq_natCast] at *); omega))
  have L5 : pLe (Int.ofNat sz) (Int.ofNat sz) = true := leSelf hF _
  have cok : ∀ a b : ByteArray, a.size ≤ 200000 → b.size ≤ 200000 → pCatOk a b = true := fun a b h1 h2 => catOkIs hF (by omega)
  obtain ⟨u1, hu1⟩ : ∃ u, u = pSsub t 0 (Int.ofNat k) := ⟨_, rfl⟩
  have z1 : u1.size ≤ k := by
    have e : pSsub t 0 (Int.ofNat k) = _ := ssubIs hF t 0 k
    rw [hu1, e]
    show ((t.data.toList.drop 0).take (k - 0)).length ≤ k
    rw [List.length_take]; omega
  obtain ⟨u2, hu2⟩ : ∃ u, u = pSsub t (Int.ofNat k) (Int.ofNat sz) := ⟨_, rfl⟩
  have z2 : u2.size ≤ sz - k := by
    have e : pSsub t (Int.ofNat k) (Int.ofNat sz) = _ := ssubIs hF t k sz
    rw [hu2, e]
    show ((t.data.toList.drop k).take (sz - k)).length ≤ _
    rw [List.length_take]; omega
  obtain ⟨u3, hu3⟩ : ∃ u, u = pSsub t (Int.ofNat (k + 1)) (Int.ofNat sz) := ⟨_, rfl⟩
  have z3 : u3.size ≤ sz - (k + 1) := by
    have e : pSsub t (Int.ofNat (k + 1)) (Int.ofNat sz) = _ := ssubIs hF t (k + 1) sz
    rw [hu3, e]
    show ((t.data.toList.drop (k + 1)).take (sz - (k + 1))).length ≤ _
    rw [List.length_take]; omega
  have w1 : ∀ {a m : Int}, SrcAt xs a → Q1 ⟨.c (.y (yS (pCat (pCat u1 c) u2))), [srcC xs a m z]⟩ := fun h => hQ _ ⟨_, _, _, ⟨by rw [ecat, ecat]; omega, h⟩, rfl⟩
  have w2 : ∀ {a m : Int}, SrcAt xs a → k < sz → Q1 ⟨.c (.y (yS (pCat u1 u3))), [srcC xs a m z]⟩ := fun h hk => hQ _ ⟨_, _, _, ⟨by rw [ecat]; omega, h⟩, rfl⟩
  have w3 : ∀ {a m : Int}, SrcAt xs a → k < sz → Q1 ⟨.c (.y (yS (pCat (pCat u1 c) u3))), [srcC xs a m z]⟩ := fun h hk => hQ _ ⟨_, _, _, ⟨by rw [ecat, ecat]; omega, h⟩, rfl⟩
  have c1 : pCatOk u1 c = true := cok _ _ (by omega) (by omega)
  have c2 : pCatOk (pCat u1 c) u2 = true := cok _ _ (by rw [ecat]; omega) (by omega)
  have c3 : pCatOk u1 u3 = true := cok _ _ (by omega) (by omega)
  have c4 : pCatOk (pCat u1 c) u3 = true := cok _ _ (by rw [ecat]; omega) (by omega)
  refine brkI (fun h => ?_) (fun h => ?_) <;> try cbv
  · rw [← hu1]
    repeat' (first | (refine brT (by assumption) ?_; try cbv) | (rw [← hu1]) | (rw [es]) | (rw [← hu2]))
    all_goals exact w1 h6
  have hk' : k < sz := by have := eqF hF h; ((try simp only [Int.ofNat_eq_natCast] at *); omega)
  have L3 : pLe (Int.ofNat (k + 1)) (Int.ofNat sz) = true := mkLe hF (by ((try simp only [Int.ofNat_eq_natCast] at *); omega))
  refine callQ3 hC (one3 h6 m2 z 3 (by decide)) (fun b a3 m3 s3 => ?_)
  cbv
  cases b <;> try cbv
  · refine callQ3 hC (one3 s3 m3 z 2 (by decide)) (fun b a4 m4 s4 => ?_)
    cbv
    cases b <;> try cbv
    · repeat' (first | (refine brT (by assumption) ?_; try cbv) | (rw [ek1]) | (rw [← hu1]) | (rw [es]) | (rw [← hu3]))
      all_goals exact w3 s4 hk'
    · repeat' (first | (refine brT (by assumption) ?_; try cbv) | (rw [ek1]) | (rw [← hu1]) | (rw [es]) | (rw [← hu3]))
      all_goals exact w2 s4 hk'
  · repeat' (first | (refine brT (by assumption) ?_; try cbv) | (rw [← hu1]) | (rw [es]) | (rw [← hu2]))
    all_goals exact w1 s3
end Go.Proofs.YtemfaiabbonpnaaDoor
