/- Functions of the program, each with what it returns, run by the evaluator; the conditions stand in the theorems. -/
import Derived.Test.YtemfaiabbonpnaaDoorLDrV
namespace Go.Proofs.YtemfaiabbonpnaaDoor
open Go Go.Proofs.YtemfaiabbonpnaaDoorW Go.Proofs
set_option linter.unusedVariables false
set_option linter.unusedSimpArgs false
set_option maxRecDepth 100000
set_option maxHeartbeats 300000
theorem l02Value_q {xs : List (List Y)} {a : Int} (h : SrcAt xs a) (m z : Int) : CallQ Tryd.prog 21 [.io (srcC xs a m z)] (ValQ xs z) := by
  have hT := l02Text_ok
  have hOf := @l02Of_q
  simp only [valC, ValQ] at hT hOf
  obtain ⟨M, hM⟩ := mapEx
  try simp only [hM]
  refine goQ Tryd.func21 rfl rfl rfl rfl fun pAdd pSub pMul pQuo pRem pAnd pOr pXor pAndNot pShl pShr pNeg pCompl pConv pLt pLe pEq pSlt pSle pSeq pCat pCatOk pSlen pSsub pSat pIadd pIsub pBnot pBeq pImin pImax pLlen pLsub pLapp pLset pLcopy pLenOk pBytes pRep hF Ca hC Q1 hQ => ?_
  cbv
  refine callQ3 hC (n3 (by assumption) m z 4 (by decide)) (fun q a1 m1 hx => ?_)
  cbv
  obtain ⟨h1, h2, h3⟩ := hx
  refine callQ5 hC (hOf h3 m1 z q (i64_n (by omega) (by rcases h2 with h2 | h2 <;> omega))) (fun vk vn vs a2 m2 hv => ?_)
  cbv
  obtain ⟨⟨v1, v2, v3⟩, h4⟩ := hv
  dsimp only at v1 v2 v3
  refine callQ3 hC (one3 h4 m2 z 25 (by decide)) (fun b a3 m3 h5 => ?_)
  cbv
  cases b <;> try cbv
  · exact hQ _ ⟨vk, vn, vs, _, _, ⟨vok v1 v2 v3, h5⟩, rfl⟩
  refine callQ3 hC (n3 h5 m3 z 4 (by decide)) (fun q4 a4 m4 hx => ?_)
  cbv
  obtain ⟨h6, h7, h8⟩ := hx
  refine brkI (fun h => ?_) (fun h => ?_) <;> try cbv
  · refine callQ3 hC (n3 h8 m4 z 6 (by decide)) (fun q5 a5 m5 hx => ?_)
    cbv
    obtain ⟨h9, h10, h11⟩ := hx
    have e : pSub .i64 q5 1 = q5 - 1 := subIs hF (by omega) (by rcases h10 with h2 | h2 <;> omega)
    rw [e]
    exact hQ _ ⟨q5 - 1, vn, vs, _, _, ⟨vok (i64_n (by omega) (by rcases h10 with h2 | h2 <;> omega)) v2 v3, h11⟩, rfl⟩
  refine brkI (fun h => ?_) (fun h => ?_) <;> try cbv
  · exact hQ _ ⟨vk, 2, vs, _, _, ⟨vok v1 i64d.1 v3, h8⟩, rfl⟩
  refine brkI (fun h => ?_) (fun h => ?_) <;> try cbv
  · exact hQ _ ⟨vk, vn, ⟨⟨[120]⟩⟩, _, _, ⟨vok v1 v2 (by decide), h8⟩, rfl⟩
  refine callQ3 hC (n3 h8 m4 z 3 (by decide)) (fun q5 a5 m5 hx => ?_)
  cbv
  obtain ⟨h9, h10, h11⟩ := hx
  have e : pAdd .i64 199 q5 = 199 + q5 := addIs hF (by omega) (by rcases h10 with h2 | h2 <;> omega)
  rw [e]
  obtain ⟨n, hn⟩ : ∃ n : Nat, 199 + q5 = Int.ofNat n := ⟨(199 + q5).toNat, by ((try simp only [Int.ofNat_eq_natCast] at *); omega)⟩
  have hn2 : n ≤ 300 := by rcases h10 with h2 | h2 <;> ((try simp only [Int.ofNat_eq_natCast] at *); omega)
  rw [hn]
  refine brT (mkLe hF (by ((try simp only [Int.ofNat_eq_natCast] at *); omega))) (brT (leSelf hF _) (brT (lenOkIs hF (by ((try simp only [Int.ofNat_eq_natCast] at *); omega))) ?_))
  have er : pRep (Int.ofNat n) [.sc (.int .u8 0)] = bytesL (List.replicate n 0) := by
    have : pRep (Int.ofNat n) [.sc (.int .u8 0)] = List.replicate n [.sc (.int .u8 0)] := by cases hF; rfl
    rw [this, bytesL, List.map_replicate]; rfl
  refine ⟨⟨⟨List.replicate n 0⟩⟩, ⟨er⟩, ?_⟩
  have hsz : (⟨⟨List.replicate n 0⟩⟩ : ByteArray).size ≤ 300 := by
    show (List.replicate n (0 : UInt8)).length ≤ 300
    rw [List.length_replicate]; exact hn2
  obtain ⟨t, ht⟩ : ∃ t : ByteArray, t = ⟨⟨List.replicate n 0⟩⟩ := ⟨_, rfl⟩
  rw [← ht] at hsz ⊢
  clear ht er
  cbv
  refine callI hC (hT _) ?_
  try cbv
  exact hQ _ ⟨3, 0, t, _, _, ⟨vok i64d.2.2 i64d.2.1 hsz, h11⟩, rfl⟩
abbrev ValsQ (xs : List (List Y)) (z : Int) (r : Res) : Prop := ∃ (l : List Val) (a m : Int), (l.length ≤ 20 ∧ (∀ v ∈ l, VOk v) ∧ SrcAt xs a) ∧ r = ⟨.c (.own 3 (l.map Val.row)), [srcC xs a m z]⟩
theorem l02Values_q {xs : List (List Y)} {a : Int} (h : SrcAt xs a) (m z : Int) : CallQ Tryd.prog 19 [.io (srcC xs a m z)] (ValsQ xs z) := by
  have hV := @l02Value_q
  obtain ⟨M, hM⟩ := mapEx
  try simp only [hM]
  refine goQ Tryd.func19 rfl rfl rfl rfl fun pAdd pSub pMul pQuo pRem pAnd pOr pXor pAndNot pShl pShr pNeg pCompl pConv pLt pLe pEq pSlt pSle pSeq pCat pCatOk pSlen pSsub pSat pIadd pIsub pBnot pBeq pImin pImax pLlen pLsub pLapp pLset pLcopy pLenOk pBytes pRep hF Ca hC Q1 hQ => ?_
  cbv
  refine callQ3 hC (n3 (by assumption) m z 4 (by decide)) (fun q a1 m1 hx => ?_)
  cbv
  obtain ⟨h1, h2, h3⟩ := hx
  have appV : ∀ (zs : List (List Y)) (l : List Val) (v : Val), zs = l.map Val.row → pLapp zs [[yN v.k, yN v.n, yS v.s]] = (l ++ [v]).map Val.row := fun zs l v hl => by
    have e2 : pLapp zs [[yN v.k, yN v.n, yS v.s]] = zs ++ [[yN v.k, yN v.n, yS v.s]] := lappIs hF _ _
    rw [e2, hl, List.map_append]; rfl
  have lok : ∀ (zs ys : List (List Y)), zs.length ≤ 6000 → ys.length ≤ 6000 → pLenOk (pIadd (pLlen zs) (pLlen ys)) = true := fun l ys hz hy => lenOkIs hF (by
    have a1 : pLlen l = _ := llenIs hF _
    have a2 : pLlen ys = _ := llenIs hF ys
    have a3 : ∀ a b, pIadd a b = a + b := fun a b => by cases hF; rfl
    rw [a1, a2, a3]; omega)
  have elen : ∀ (zs : List (List Y)) (l : List Val), zs = l.map Val.row → pLlen zs = Int.ofNat l.length := fun zs l hl => (llenIs hF _).trans (by rw [hl, List.length_map]; rfl)
  refine loop_u (α := Int × List (List Y) × Int × Int) (fun (k, zs, a, m) st => ((st.n 4 k).ob 3001 (.ar 3 zs)).ob 0 (.bx [.y (.sl 1 xs), .y (.sc (.int .i64 a)), .y (.sc (.int .u64 m)), .y (.sc (.int .i64 z))]))
    (fun x => 0 ≤ x.1 ∧ SrcAt xs x.2.2.1 ∧ ∃ l : List Val, x.2.1 = l.map Val.row ∧ Int.ofNat l.length + x.1 ≤ 3 ∧ ∀ v ∈ l, VOk v) (fun x => x.1.toNat) (q, [], a1, m1) rfl ⟨h1, h3, [], rfl, by dsimp only; simp only [List.length_nil]; rcases h2 with h2 | h2 <;> ((try simp only [Int.ofNat_eq_natCast] at *); omega), by simp⟩ (fun K' hK I x hx ih => ?_)
  obtain ⟨k, zs, a2, m2⟩ := x
  obtain ⟨hk, hs, l, hl, hlk, hv⟩ := hx
  dsimp only at hk hs hl hlk
  cbv
  refine brkI (fun h => ?_) (fun h => ?_) <;> try cbv
  · have h := ltT hF h
    refine callQ5 hC (hV hs m2 z) (fun vk vn vs a3 m3 hx => ?_)
    cbv
    obtain ⟨hv3, hs3⟩ := hx
    have hzl : zs.length = l.length := by rw [hl, List.length_map]
    refine brT (lok zs _ (by ((try simp only [Int.ofNat_eq_natCast] at *); omega)) (by simp only [List.length_cons, List.length_nil]; omega)) ?_
    try cbv
    have e : pSub .i64 k 1 = k - 1 := subIs hF (by ((try simp only [Int.ofNat_eq_natCast] at *); omega)) (by ((try simp only [Int.ofNat_eq_natCast] at *); omega))
    have e3 := appV zs l ⟨vk, vn, vs⟩ hl
    conv => arg 1; cbv
    rw [e]
    refine ih (k - 1, _, a3, m3) _ ⟨by dsimp only; omega, hs3, l ++ [⟨vk, vn, vs⟩], e3, by dsimp only; rw [List.length_append]; simp only [List.length_cons, List.length_nil]; ((try simp only [Int.ofNat_eq_natCast] at *); omega), fun v hv' => ?_⟩ (by dsimp only; ((try simp only [Int.ofNat_eq_natCast] at *); omega)) rfl
    · rcases List.mem_append.1 hv' with h' | h'
      · exact hv v h'
      · rw [List.mem_singleton.1 h']; exact hv3
  · refine hK _ _ ?_
    cbv
    refine callQ3 hC (one3 hs m2 z 40 (by decide)) (fun b a3 m3 hs3 => ?_)
    cbv
    have hl3 : l.length ≤ 3 := by ((try simp only [Int.ofNat_eq_natCast] at *); omega)
    cases b <;> try cbv
    · refine hQ _ ⟨l, a3, m3, ⟨by omega, hv, hs3⟩, ?_⟩
      rw [← hl]; rfl
    refine loop_u (α := List (List Y) × Int × Int) (fun (zs, a, m) st => (st.ob 3001 (.ar 3 zs)).ob 0 (.bx [.y (.sl 1 xs), .y (.sc (.int .i64 a)), .y (.sc (.int .u64 m)), .y (.sc (.int .i64 z))]))
      (fun x => SrcAt xs x.2.1 ∧ ∃ l : List Val, x.1 = l.map Val.row ∧ l.length ≤ 14 ∧ ∀ v ∈ l, VOk v) (fun x => 14 - x.1.length) (zs, a3, m3) rfl ⟨hs3, l, hl, by omega, hv⟩ (fun K2 hK2 J x hx jh => ?_)
    clear hl hv hs3 hlk hl3
    obtain ⟨zs, a4, m4⟩ := x
    obtain ⟨hs4, l, hl, hlk, hv⟩ := hx
    dsimp only at hs4 hl hlk
    cbv
    refine callQ3 hC (n3 hs4 m4 z 3 (by decide)) (fun q5 a5 m5 hx => ?_)
    cbv
    obtain ⟨h5, h6, h7⟩ := hx
    have e : pAdd .i64 11 q5 = 11 + q5 := addIs hF (by omega) (by rcases h6 with h2 | h2 <;> omega)
    rw [e, elen zs l hl]
    have hzl : zs.length = l.length := by rw [hl, List.length_map]
    refine brkI (fun h => ?_) (fun h => ?_) <;> try cbv
    · have h := ltT hF h
      have hl13 : l.length < 14 := by rcases h6 with h2 | h2 <;> ((try simp only [Int.ofNat_eq_natCast] at *); omega)
      refine brT (lok zs _ (by ((try simp only [Int.ofNat_eq_natCast] at *); omega)) (by simp only [List.length_cons, List.length_nil]; omega)) ?_
      try cbv
      have e3 := appV zs l ⟨0, 0, ⟨⟨[]⟩⟩⟩ hl
      conv => arg 1; cbv
      refine jh (_, a5, m5) _ ⟨h7, l ++ [⟨0, 0, ⟨⟨[]⟩⟩⟩], e3, by rw [List.length_append]; simp only [List.length_cons, List.length_nil]; omega, fun v hv' => ?_⟩ (by dsimp only; refine Nat.sub_lt_sub_left (by omega) ?_; rw [e3, List.length_map, List.length_append]; simp only [List.length_cons, List.length_nil]; omega) rfl
      · rcases List.mem_append.1 hv' with h' | h'
        · exact hv v h'
        · rw [List.mem_singleton.1 h']; exact vok i64d.2.1 i64d.2.1 (by decide)
    · refine hK2 _ _ ?_
      cbv
      refine hQ _ ⟨l, a5, m5, ⟨by omega, hv, h7⟩, ?_⟩
      rw [← hl]; rfl
end Go.Proofs.YtemfaiabbonpnaaDoor
