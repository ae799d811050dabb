/- Functions of the program, each with what it returns, run by the evaluator; the conditions stand in the theorems. -/
import Derived.Test.YthaelohccopgjaaLSrc2
import Derived.Test.YthaelohccopgjaaLTrN
import Derived.Test.YthaelohccopgjaaLTrK
import Derived.Test.YthaelohccopgjaaV6
namespace Go.Proofs.Ythaelohccopgjaa
open Go Go.Proofs.YthaelohccopgjaaW Go.Proofs
set_option linter.unusedVariables false
set_option linter.unusedSimpArgs false
set_option maxRecDepth 100000
set_option maxHeartbeats 8000000
/-! Draws, told by what holds of what is drawn. -/
structure SrcAt (xs : List (List Y)) (a : Int) : Prop where
  ex : ∃ (l : List UInt8) (n : Nat), xs = bytesL l ∧ a = Int.ofNat n ∧ n ≤ l.length ∧ l.length ≤ 1048576
theorem n3 {xs : List (List Y)} {a : Int} (h : SrcAt xs a) (m z most : Int) (hm : most ≤ 4611686018427387904) :
    CallQ Try.prog 62 [.io (srcC xs a m z), aN most] (fun r => ∃ q a m, (0 ≤ q ∧ (q < most ∨ q = 0) ∧ SrcAt xs a) ∧ r = ⟨.c (.y (yN q)), [srcC xs a m z]⟩) := by
  obtain ⟨l, n, rfl, rfl, h1, h2⟩ := h.ex
  have hr := nRes_range l n m most
  exact CallOK.q (n_ok l n m z most h2 h1 hm) ⟨_, _, _, ⟨by omega, by omega, ⟨l, _, rfl, rfl, nAt_le l n most h1, h2⟩⟩, rfl⟩
theorem one3 {xs : List (List Y)} {a : Int} (h : SrcAt xs a) (m z most : Int) (hm : most ≤ 4611686018427387904) :
    CallQ Try.prog 63 [.io (srcC xs a m z), aN most] (fun r => ∃ b a m, SrcAt xs a ∧ r = ⟨.c (.y (yB b)), [srcC xs a m z]⟩) := by
  obtain ⟨l, n, rfl, rfl, h1, h2⟩ := h.ex
  exact CallOK.q (one_ok l n m z most h2 h1 hm) ⟨_, _, _, ⟨l, _, rfl, rfl, nAt_le l n most h1, h2⟩, rfl⟩
/-- What draws start from. -/
def IsCode (xs : List (List Y)) : Prop := ∃ l : List UInt8, xs = bytesL l ∧ l.length ≤ 1048576
theorem source2 {xs : List (List Y)} (h : IsCode xs) : CallQ Try.prog 33 [.c (.y (.sl 1 xs))] (fun r => ∃ m z, (0 ≤ z ∧ z ≤ 12 ∧ SrcAt xs 0) ∧ r = ⟨.c (.own 0 [[.sl 1 xs, yN 0, .sc (.int .u64 m), yN z]]), []⟩) := by
  obtain ⟨l, rfl, hl⟩ := h
  refine CallOK.q (source_ok l hl) ⟨_, _, ⟨?_, ?_, ⟨l, 0, rfl, rfl, Nat.zero_le _, hl⟩⟩, rfl⟩
  all_goals
    have e : prims.quo .i64 (Int.ofNat l.length) 20 = Int.ofNat (l.length / 20) := by
      have e1 : (Int.ofNat l.length).tdiv 20 = Int.ofNat (l.length / 20) := rfl
      show IntKind.i64.wrap _ = _
      rw [e1, wrap_i64 (by ((try simp only [Int.ofNat_eq_natCast] at *); omega)) (by ((try simp only [Int.ofNat_eq_natCast] at *); omega))]
    rw [srcZ, e]
    split <;> ((try simp only [Int.ofNat_eq_natCast] at *); omega)
theorem key3 {xs : List (List Y)} {a : Int} (h : SrcAt xs a) (m z : Int) :
    CallQ Try.prog 35 [.io (srcC xs a m z)] (fun r => ∃ (u : ByteArray) (a m : Int), (u.size = 2 ∧ SrcAt xs a) ∧ r = ⟨.c (.y (yS u)), [srcC xs a m z]⟩) := by
  obtain ⟨M, hM⟩ := mapEx
  try simp only [hM]
  refine goQ Try.func35 rfl rfl rfl rfl fun pAdd pSub pMul pQuo pRem pAnd pOr pXor pAndNot pShl pShr pNeg pCompl pConv pLt pLe pEq pSlt pSle pSeq pCat pCatOk pSlen pSsub pSat pIadd pIsub pBnot pBeq pImin pImax pLlen pLsub pLapp pLset pLcopy pLenOk pBytes pRep hF Ca hC Q1 hQ => ?_
  cbv
  refine callQ3 hC (n3 h m z 5 (by decide)) (fun q1 a1 m1 h1 => ?_)
  cbv
  obtain ⟨h1, h2, h3⟩ := h1
  refine callQ3 hC (n3 h3 m1 z 5 (by decide)) (fun q2 a2 m2 h4 => ?_)
  cbv
  obtain ⟨h4, h5, h6⟩ := h4
  refine ⟨⟨⟨[lastByte (pAdd .i64 97 q1), lastByte (pAdd .i64 97 q2)]⟩⟩, ⟨?_⟩, ?_⟩
  · have hc : ∀ a, [Y.sc (.int .u8 (pConv .u8 a))] = [Y.sc (.int .u8 (lastByte a).toNat)] := fun a => by cases hF; exact byte_row a
    rw [hc, hc]; rfl
  obtain ⟨u, hu⟩ : ∃ u : ByteArray, u = ⟨⟨[lastByte (pAdd .i64 97 q1), lastByte (pAdd .i64 97 q2)]⟩⟩ := ⟨_, rfl⟩
  have hus : u.size = 2 := by rw [hu]; rfl
  rw [← hu]
  clear hu
  cbv
  exact hQ _ ⟨u, _, _, ⟨hus, h6⟩, rfl⟩
theorem pick3 {xs : List (List Y)} {a : Int} (h : SrcAt xs a) (m z : Int) (l : List ByteArray) (hl : 1 ≤ l.length) (hl2 : l.length ≤ 1000) :
    CallQ Try.prog 36 [.io (srcC xs a m z), .c (.y (.sl 1 (l.map rowS)))] (fun r => ∃ (u : ByteArray) (a m : Int), (u ∈ l ∧ SrcAt xs a) ∧ r = ⟨.c (.y (yS u)), [srcC xs a m z]⟩) := by
  obtain ⟨ys, hy⟩ : ∃ ys, ys = l.map rowS := ⟨_, rfl⟩
  have hyl : ys.length = l.length := by rw [hy, List.length_map]
  rw [← hy]
  obtain ⟨n, hn⟩ : ∃ n, n = l.length := ⟨_, rfl⟩
  rw [← hn] at hyl hl hl2
  obtain ⟨M, hM⟩ := mapEx
  try simp only [hM]
  refine goQ Try.func36 rfl rfl rfl rfl fun pAdd pSub pMul pQuo pRem pAnd pOr pXor pAndNot pShl pShr pNeg pCompl pConv pLt pLe pEq pSlt pSle pSeq pCat pCatOk pSlen pSsub pSat pIadd pIsub pBnot pBeq pImin pImax pLlen pLsub pLapp pLset pLcopy pLenOk pBytes pRep hF Ca hC Q1 hQ => ?_
  cbv
  have el : pLlen ys = Int.ofNat n := (llenIs hF _).trans (by rw [hyl]; rfl)
  have ec : pConv .i64 (Int.ofNat n) = Int.ofNat n := by cases hF; exact wrap_i64 (by ((try simp only [Int.ofNat_eq_natCast] at *); omega)) (by ((try simp only [Int.ofNat_eq_natCast] at *); omega))
  rw [el]
  try rw [ec]
  refine callQ3 hC (n3 h m z (Int.ofNat n) (by ((try simp only [Int.ofNat_eq_natCast] at *); omega))) (fun q a2 m2 hx => ?_)
  cbv
  obtain ⟨h1, h2, h3⟩ := hx
  obtain ⟨i, rfl⟩ : ∃ i : Nat, q = Int.ofNat i := ⟨q.toNat, by ((try simp only [Int.ofNat_eq_natCast] at *); omega)⟩
  have hi : i < l.length := by rcases h2 with h2 | h2 <;> ((try simp only [Int.ofNat_eq_natCast] at *); omega)
  refine lgetR hy hi (fun u hu => ?_)
  cbv
  exact hQ _ ⟨u, _, _, ⟨by rw [hu]; exact List.getElem_mem hi, h3⟩, rfl⟩
abbrev TreeQ (xs : List (List Y)) (z : Int) (r : Res) : Prop := ∃ (u : Tr) (a m : Int), (Tr.Bd 1048576 u ∧ SrcAt xs a) ∧ r = ⟨.agg [.own 1 (u.keys.map rowS), .own 1 (u.vals.map rowS), .own 3 (u.kids.map Tr.row)], [srcC xs a m z]⟩
theorem tree3 {xs : List (List Y)} {a : Int} (h : SrcAt xs a) (m z : Int) (hz0 : 0 ≤ z) (hz1 : z ≤ 12) :
    CallQ Try.prog 34 [.io (srcC xs a m z)] (TreeQ xs z) := by
  have cP := fun (u : Tr) (k v : ByteArray) (hb : Tr.Bd 1048576 u) => sTreePut_ok u k v hb
  have cD := fun (u : Tr) (k : ByteArray) (hb : Tr.Bd 1048576 u) => sTreeDel_ok u k hb
  have bP := fun t k v => putT_bdM (M := 1000000) (by omega) t k v
  have bD := fun t k => delT_bdM (M := 1000000) (by omega) t k
  obtain ⟨pt, hpt⟩ : ∃ f, f = putT := ⟨_, rfl⟩
  obtain ⟨dt, hdt⟩ : ∃ f, f = delT := ⟨_, rfl⟩
  rw [← hpt] at cP bP
  rw [← hdt] at cD bD
  clear hpt hdt
  obtain ⟨M, hM⟩ := mapEx
  try simp only [hM]
  refine goQ Try.func34 rfl rfl rfl rfl fun pAdd pSub pMul pQuo pRem pAnd pOr pXor pAndNot pShl pShr pNeg pCompl pConv pLt pLe pEq pSlt pSle pSeq pCat pCatOk pSlen pSsub pSat pIadd pIsub pBnot pBeq pImin pImax pLlen pLsub pLapp pLset pLcopy pLenOk pBytes pRep hF Ca hC Q1 hQ => ?_
  cbv
  have e0 : pMul .i64 2 z = 2 * z := mulIs hF (by omega) (by omega)
  have e1 : pAdd .i64 6 (pMul .i64 2 z) = 6 + 2 * z := by rw [e0]; exact addIs hF (by omega) (by omega)
  rw [e1]
  refine callQ3 hC (n3 h m z (6 + 2 * z) (by omega)) (fun k a1 m1 hx => ?_)
  cbv
  obtain ⟨k1, k2, s1⟩ := hx
  refine loop_u (α := Int × List (List Y) × List (List Y) × List (List Y) × Int × Int)
    (fun (k, ks, vs, zs, a, m) st => ((((⟨put1 st.s 4 (.c (.y (.sc (.int .i64 k)))), st.o⟩ : State).ob 0 (.bx [.y (.sl 1 xs), .y (yN a), .y (.sc (.int .u64 m)), .y (yN z)])).ob 3001 (.ar 1 ks)).ob 3002 (.ar 1 vs)).ob 3003 (.ar 3 zs))
    (fun (k, ks, vs, zs, a, m) => k < 1000 ∧ SrcAt xs a ∧ ∃ u : Tr, Tr.Bd 1000000 u ∧ ks = u.keys.map rowS ∧ vs = u.vals.map rowS ∧ zs = u.kids.map Tr.row) (fun (k, _) => k.toNat) (k, [], [], [], a1, m1) rfl
    ⟨by rcases k2 with k2 | k2 <;> omega, s1, ⟨[], [], []⟩, bd0M, rfl, rfl, rfl⟩ (fun K' hK I a hi ih => ?_)
  obtain ⟨k, ks, vs, zs, a, m⟩ := a
  obtain ⟨hk, hs, u, hu, hks, hvs, hzs⟩ := hi
  cbv
  refine brkI (fun h => ?_) (fun h => ?_) <;> try cbv
  · have h := ltT hF h
    refine callQ3 hC (one3 hs m z 4 (by decide)) (fun b a3 m3 s3 => ?_)
    cbv
    have cP' : ∀ k v, CallOK Try.prog 30 [.agg [.y (.sl 1 ks), .y (.sl 1 vs), .y (.sl 3 zs)], aS k, aS v] ⟨.agg [.own 1 ((pt u k v).keys.map rowS), .own 1 ((pt u k v).vals.map rowS), .own 3 ((pt u k v).kids.map Tr.row)], []⟩ := fun k v => by
      rw [hks, hvs, hzs]; exact cP u k v (hu.mono (by omega))
    have cD' : ∀ k, CallOK Try.prog 32 [.agg [.y (.sl 1 ks), .y (.sl 1 vs), .y (.sl 3 zs)], aS k] ⟨.agg [.own 1 ((dt u k).keys.map rowS), .own 1 ((dt u k).vals.map rowS), .own 3 ((dt u k).kids.map Tr.row)], []⟩ := fun k => by
      rw [hks, hvs, hzs]; exact cD u k (hu.mono (by omega))
    obtain ⟨pk, hpk⟩ : ∃ f : ByteArray → ByteArray → List (List Y), f = fun k v => (pt u k v).keys.map rowS := ⟨_, rfl⟩
    obtain ⟨pv, hpv⟩ : ∃ f : ByteArray → ByteArray → List (List Y), f = fun k v => (pt u k v).vals.map rowS := ⟨_, rfl⟩
    obtain ⟨pz, hpz⟩ : ∃ f : ByteArray → ByteArray → List (List Y), f = fun k v => (pt u k v).kids.map Tr.row := ⟨_, rfl⟩
    obtain ⟨dk, hdk⟩ : ∃ f : ByteArray → List (List Y), f = fun k => (dt u k).keys.map rowS := ⟨_, rfl⟩
    obtain ⟨dv, hdv⟩ : ∃ f : ByteArray → List (List Y), f = fun k => (dt u k).vals.map rowS := ⟨_, rfl⟩
    obtain ⟨dz, hdz⟩ : ∃ f : ByteArray → List (List Y), f = fun k => (dt u k).kids.map Tr.row := ⟨_, rfl⟩
    have cP2 : ∀ k v, CallOK Try.prog 30 [.agg [.y (.sl 1 ks), .y (.sl 1 vs), .y (.sl 3 zs)], aS k, aS v] ⟨.agg [.own 1 (pk k v), .own 1 (pv k v), .own 3 (pz k v)], []⟩ := fun k v => by
      rw [hpk, hpv, hpz]; exact cP' k v
    have cD2 : ∀ k, CallOK Try.prog 32 [.agg [.y (.sl 1 ks), .y (.sl 1 vs), .y (.sl 3 zs)], aS k] ⟨.agg [.own 1 (dk k), .own 1 (dv k), .own 3 (dz k)], []⟩ := fun k => by
      rw [hdk, hdv, hdz]; exact cD' k
    have es : pSub .i64 k 1 = k - 1 := subIs hF (by omega) (by omega)
    clear cP' cD'
    cases b <;> try cbv
    · repeat' (first
        | (refine And.intro ?_ ?_ <;> try cbv)
        | (refine callQ3 hC (key3 (by assumption) _ _) (fun ku a4 m4 hx => ?_); cbv; obtain ⟨hku, s4⟩ := hx)
        | (refine callQ3 hC (pick3 (by assumption) _ _ [⟨⟨[]⟩⟩, ⟨⟨[118]⟩⟩, ⟨⟨[119]⟩⟩] (by simp) (by simp)) (fun pu a5 m5 hx => ?_); cbv; obtain ⟨hpu, s5⟩ := hx)
        | (refine callI hC (cP2 _ _) ?_; cbv))
      all_goals
        conv => arg 1; cbv
        rw [es]
        exact ih (k - 1, pk ku pu, pv ku pu, pz ku pu, a5, m5) _ ⟨by omega, s5, pt u ku pu, bP u ku pu hu, by rw [hpk], by rw [hpv], by rw [hpz]⟩ (by dsimp only; omega) rfl
    · repeat' (first
        | (refine And.intro ?_ ?_ <;> try cbv)
        | (refine callQ3 hC (key3 (by assumption) _ _) (fun ku a4 m4 hx => ?_); cbv; obtain ⟨hku, s4⟩ := hx)
        | (refine callI hC (cD2 _) ?_; cbv))
      all_goals
        conv => arg 1; cbv
        rw [es]
        exact ih (k - 1, dk ku, dv ku, dz ku, a4, m4) _ ⟨by omega, s4, dt u ku, bD u ku hu, by rw [hdk], by rw [hdv], by rw [hdz]⟩ (by dsimp only; omega) rfl
  · have h := ltF hF h
    refine hK _ _ ?_
    cbv
    refine callQ3 hC (one3 hs m z 20 (by decide)) (fun b a3 m3 s3 => ?_)
    cbv
    have lk : pLlen ks = Int.ofNat u.keys.length := (llenIs hF ks).trans (by rw [hks, List.length_map]; rfl)
    cases b <;> try cbv
    · exact hQ _ ⟨u, a3, m3, ⟨hu.mono (by omega), s3⟩, by rw [hks, hvs, hzs]; rfl⟩
    · refine callQ3 hC (n3 s3 m3 z 4 (by decide)) (fun q a4 m4 hx => ?_)
      cbv
      obtain ⟨q1, q2, s4⟩ := hx
      have lv : pLlen vs = Int.ofNat u.vals.length := (llenIs hF vs).trans (by rw [hvs, List.length_map]; rfl)
      have lz : pLlen zs = Int.ofNat u.kids.length := (llenIs hF zs).trans (by rw [hzs, List.length_map]; rfl)
      have aD : ∀ a b, pIadd a b = a + b := iaddDD hF
      have pD : ∀ a b, pLapp a b = a ++ b := lappDD hF
      have l1 : ∀ x : List Y, pLlen [x] = 1 := fun x => llenIs hF [x]
      obtain ⟨_, b1, b2, b3, b4, b5, b6⟩ := hu.mono (M' := 1048576) (by omega)
      obtain ⟨_, c1, _, c3, _, c5, _⟩ := hu
      refine brkI (fun h => ?_) (fun h => ?_) <;> try cbv
      · refine brT (lenOkIs hF (by rw [aD, lv, l1]; ((try simp only [Int.ofNat_eq_natCast] at *); omega))) ?_
        try cbv
        refine hQ _ ⟨⟨u.keys, u.vals ++ [⟨⟨[120]⟩⟩], u.kids⟩, a4, m4, ⟨⟨_, b1, b2, by simp; omega, ?_, b5, b6⟩, s4⟩, ?_⟩
        · intro x hx
          rcases List.mem_append.1 hx with hx | hx
          · exact b4 x hx
          · rw [List.mem_singleton.1 hx]; decide
        · rw [pD, hks, hvs, hzs]; simp only [List.map_append, List.map_cons, List.map_nil]; rfl
      refine brkI (fun h => ?_) (fun h => ?_) <;> try cbv
      · refine brT (lenOkIs hF (by rw [aD, lk, l1]; ((try simp only [Int.ofNat_eq_natCast] at *); omega))) ?_
        try cbv
        refine hQ _ ⟨⟨u.keys ++ [⟨⟨[97]⟩⟩], u.vals, u.kids⟩, a4, m4, ⟨⟨_, by simp; omega, ?_, b3, b4, b5, b6⟩, s4⟩, ?_⟩
        · intro x hx
          rcases List.mem_append.1 hx with hx | hx
          · exact b2 x hx
          · rw [List.mem_singleton.1 hx]; decide
        · rw [pD, hks, hvs, hzs]; simp only [List.map_append, List.map_cons, List.map_nil]; rfl
      refine brkI (fun h => ?_) (fun h => ?_) <;> try cbv
      · refine brT (lenOkIs hF (by rw [aD, lz, l1]; ((try simp only [Int.ofNat_eq_natCast] at *); omega))) ?_
        try cbv
        refine hQ _ ⟨⟨u.keys, u.vals, u.kids ++ [⟨[], [], []⟩]⟩, a4, m4, ⟨⟨_, b1, b2, b3, b4, by simp; omega, ?_⟩, s4⟩, ?_⟩
        · intro x hx
          rcases List.mem_append.1 hx with hx | hx
          · exact b6 x hx
          · rw [List.mem_singleton.1 hx]; exact bd0
        · rw [pD, hks, hvs, hzs]; simp only [List.map_append, List.map_cons, List.map_nil, Tr.row_eq (⟨[], [], []⟩ : Tr)]; rfl
      have hu0 : Tr.Bd 1048576 u := ⟨_, b1, b2, b3, b4, b5, b6⟩
      clear b1 b2 b3 b4 b5 b6 c1 c3 c5
      refine callQ3 hC (n3 s4 m4 z 5 (by decide)) (fun q5 a5 m5 hx => ?_)
      cbv
      obtain ⟨r1, r2, s5⟩ := hx
      have e9 : pAdd .i64 9 q5 = 9 + q5 := addIs hF (by omega) (by rcases r2 with r2 | r2 <;> omega)
      rw [e9]
      refine loop_u (α := Int × List (List Y) × List (List Y) × List (List Y))
        (fun (k, ks, vs, zs) st => (((⟨put1 st.s 5 (.c (.y (.sc (.int .i64 k)))), st.o⟩ : State).ob 3001 (.ar 1 ks)).ob 3002 (.ar 1 vs)).ob 3003 (.ar 3 zs))
        (fun (k, ks, vs, zs) => k < 1000 ∧ ∃ u : Tr, Tr.Bd 1048576 u ∧ ks = u.keys.map rowS ∧ vs = u.vals.map rowS ∧ zs = u.kids.map Tr.row) (fun (k, _) => k.toNat) (9 + q5, ks, vs, zs) rfl
        ⟨by rcases r2 with r2 | r2 <;> omega, u, hu0, hks, hvs, hzs⟩ (fun K' hK I a hi ih => ?_)
      obtain ⟨j, ks, vs, zs⟩ := a
      obtain ⟨hj, u, hu, hks, hvs, hzs⟩ := hi
      cbv
      refine brkI (fun h => ?_) (fun h => ?_) <;> try cbv
      · have h := ltT hF h
        have es : pSub .i64 j 1 = j - 1 := subIs hF (by omega) (by omega)
        conv => arg 1; cbv
        rw [es]
        exact ih (j - 1, [[yS ⟨⟨[109]⟩⟩]], [[yS ⟨⟨[]⟩⟩]], [[.sl 1 ks, .sl 1 vs, .sl 3 zs], [.sl 1 ks, .sl 1 vs, .sl 3 zs]]) _
          ⟨by omega, ⟨[⟨⟨[109]⟩⟩], [⟨⟨[]⟩⟩], [u, u]⟩, ⟨_, by simp, by intro x hx; rw [List.mem_singleton.1 hx]; decide, by simp, by intro x hx; rw [List.mem_singleton.1 hx]; decide, by simp, by intro x hx; simp at hx; rw [hx]; exact hu⟩, rfl, rfl, by rw [hks, hvs, hzs]; simp only [List.map_cons, List.map_nil, Tr.row_eq u]⟩ (by dsimp only; omega) rfl
      · have h := ltF hF h
        refine hK _ _ ?_
        cbv
        exact hQ _ ⟨u, a5, m5, ⟨hu, s5⟩, by rw [hks, hvs, hzs]; rfl⟩
end Go.Proofs.Ythaelohccopgjaa
