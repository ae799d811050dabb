/- Functions of the program, each with what it returns, run by the evaluator; the conditions stand in the theorems. -/
import Derived.Test.YtnieabocheadpaaGreatLDb
import Derived.Test.YtnieabocheadpaaGreatLDisk
import Derived.Test.YtnieabocheadpaaGreatLShf
namespace Go.Proofs.YtnieabocheadpaaGreat
open Go Go.Proofs.YtnieabocheadpaaGreatW Go.Proofs
set_option linter.unusedVariables false
set_option linter.unusedSimpArgs false
set_option maxRecDepth 100000
set_option maxHeartbeats 8000000
/-- All sectors from one on are bytes 0. -/
def blankB (l : List ByteArray) (f : Nat) : Bool := allTo (fun j => decide (l.getD (f + j) noB = zerosB 64)) (l.length - f)
theorem blankB_f {l : List ByteArray} {f i : Nat} (h : f + i < l.length) (hne : l.getD (f + i) noB ≠ zerosB 64) : blankB l f = false := by
  rw [blankB]
  exact allTo_false (i := i) (by omega) (decide_eq_false hne)
theorem blank_ok (d : Dsk) (f : Nat) (hl : d.secs.length ≤ 1048576) (hf : f ≤ 1000) : CallOK Tryz.prog 52 [.agg [.y (.sl 1 (d.secs.map rowS)), .y (.sl 2 (d.cache.map Wr.row))], aN (Int.ofNat f)] (B (blankB d.secs f)) := by
  obtain ⟨q, hq⟩ : ∃ q, q = blankB d.secs f := ⟨_, rfl⟩
  rw [← hq]
  obtain ⟨n, hn⟩ : ∃ n, n = d.secs.length := ⟨_, rfl⟩
  rw [← hn] at hl
  obtain ⟨bk, hbk⟩ : ∃ b, b = zerosB 64 := ⟨_, rfl⟩
  have hq1 : (∀ j, j < n - f → decide (d.secs.getD (f + j) noB = bk) = true) → q = true := fun h => by rw [hq, blankB, ← hn, ← hbk]; exact allTo_iff.2 h
  have hq0 : ∀ i, f + i < n → d.secs.getD (f + i) noB ≠ bk → q = false := fun i h hne => by rw [hq]; exact blankB_f (i := i) (by omega) (by rw [← hbk]; exact hne)
  obtain ⟨M, hM⟩ := mapEx
  try simp only [hM]
  refine go Tryz.func52 rfl rfl rfl rfl fun pAdd pSub pMul pQuo pRem pAnd pOr pXor pAndNot pShl pShr pNeg pCompl pConv pLt pLe pEq pSlt pSle pSeq pCat pCatOk pSlen pSsub pSat pIadd pIsub pBnot pBeq pImin pImax pLlen pLsub pLapp pLset pLcopy pLenOk pBytes pRep hF Ca hC r hr => ?_
  cbv
  have ls : pLlen (M rowS d.secs) = Int.ofNat n := (llenIs hF _).trans (by rw [← hM, List.length_map, ← hn]; rfl)
  refine brT (by first | rfl | exact mkLe hF (by decide)) ?_
  refine brT (by first | rfl | exact mkLe hF (by decide)) ?_
  refine brT (by first | rfl | exact lenOkIs hF (by decide)) ?_
  try cbv
  have er : pRep 64 [Y.sc (Value.int IntKind.u8 0)] = bytesL (List.replicate 64 0) := by
    have : pRep 64 [Y.sc (Value.int IntKind.u8 0)] = List.replicate 64 [Y.sc (Value.int IntKind.u8 0)] := repIs hF 64 _
    rw [this]; simp [bytesL]
  refine ⟨bk, ⟨by rw [er, hbk]; rfl⟩, ?_⟩
  cbv
  refine loop_u (α := Nat × Nat) (fun z st => st.n 6 (Int.ofNat z.2)) (fun z => z.2 = f + z.1 ∧ ∀ j, j < z.1 → decide (d.secs.getD (f + j) noB = bk) = true) (fun z => n - z.1) (0, f) rfl ⟨by dsimp only; omega, fun j hj => absurd hj (by simp)⟩ (fun K' hK I z hi ih => ?_)
  obtain ⟨i, k⟩ := z
  obtain ⟨hk, hp⟩ := hi
  dsimp only at hk hp
  cbv
  rw [ls]
  refine brkI (fun h0 => ?_) (fun h0 => ?_) <;> try cbv
  · have h0 := ltT hF h0
    have hs : k < d.secs.length := by rw [← hn]; ((try simp only [Int.ofNat_eq_natCast] at *); omega)
    have e1 : pAdd .i64 (Int.ofNat k) 1 = Int.ofNat (k + 1) := add1Is hF (by omega)
    refine lgetM (l := d.secs) (fun u => [yS u]) (fun u => by simp only [rowS]) (hM _ _).symm hs fun u hu => ?_
    cbv
    have ku : d.secs.getD (f + i) noB = u := by rw [← hk]; exact getD_of hs hu
    refine brkI (fun h1 => ?_) (fun h1 => ?_) <;> try cbv
    · have h1 := seqT hF h1
      conv => arg 1; cbv
      rw [e1]
      refine ih (i + 1, k + 1) _ ⟨by dsimp only; omega, fun j hj => ?_⟩ (by dsimp only; omega) rfl
      dsimp only at hj
      by_cases e : j = i
      · rw [e, ku]; exact decide_eq_true h1
      · exact hp j (by omega)
    · have h1 := seqF hF h1
      refine hK _ _ ?_
      cbv
      exact retB hr (hq0 i (by omega) (by rw [ku]; exact h1))
  · have h0 := ltF hF h0
    refine hK _ _ ?_
    cbv
    exact retB hr (hq1 fun j hj => hp j (by ((try simp only [Int.ofNat_eq_natCast] at *); omega)))
theorem empty_ok : CallOK Tryz.prog 58 [] (St (zerosB 64)) := by
  have c := zeros_ok 64 (by omega)
  obtain ⟨bk, hbk⟩ : ∃ b, b = zerosB 64 := ⟨_, rfl⟩
  rw [← hbk] at c ⊢
  rw [show Int.ofNat 64 = 64 from rfl] at c
  obtain ⟨M, hM⟩ := mapEx
  try simp only [hM]
  refine go Tryz.func58 rfl rfl rfl rfl fun pAdd pSub pMul pQuo pRem pAnd pOr pXor pAndNot pShl pShr pNeg pCompl pConv pLt pLe pEq pSlt pSle pSeq pCat pCatOk pSlen pSsub pSat pIadd pIsub pBnot pBeq pImin pImax pLlen pLsub pLapp pLset pLcopy pLenOk pBytes pRep hF Ca hC r hr => ?_
  cbv
  refine callS hC (by have hh := c; (try simp only [hM] at hh); exact hh) (fun s hs => ?_)
  cbv
  exact retS hr hs.symm
theorem blankCl_ok (nn u : ByteArray) : CallOK Tryz.prog 60 [aS u, .rp [yS nn]] (B (!decide (u = nn))) := by
  obtain ⟨q, hq⟩ : ∃ q, q = (!decide (u = nn)) := ⟨_, rfl⟩
  rw [← hq]
  obtain ⟨M, hM⟩ := mapEx
  try simp only [hM]
  refine go Tryz.func60 rfl rfl rfl rfl fun pAdd pSub pMul pQuo pRem pAnd pOr pXor pAndNot pShl pShr pNeg pCompl pConv pLt pLe pEq pSlt pSle pSeq pCat pCatOk pSlen pSsub pSat pIadd pIsub pBnot pBeq pImin pImax pLlen pLsub pLapp pLset pLcopy pLenOk pBytes pRep hF Ca hC r hr => ?_
  cbv
  refine brkI (fun h => ?_) (fun h => ?_) <;> try cbv
  · exact retB hr (hq.trans (by rw [decide_eq_true (seqT hF h)]; rfl))
  · exact retB hr (hq.trans (by rw [decide_eq_false (seqF hF h)]; rfl))
theorem notBlank_ix (nn : ByteArray) (l : List ByteArray) (hl : l.length ≤ maxLen) : CallOK Tryz.prog 104 [.c (.y (.sl 1 (l.map rowS))), .fv 60 [[yS nn]]] (N (firstTo (fun i => (fun u => !decide (u = nn)) (l.getD i ByteArray.empty)) l.length)) := by
  rw [maxLen_is] at hl
  obtain ⟨q, hq⟩ : ∃ q, q = firstTo (fun i => (fun u => !decide (u = nn)) (l.getD i ByteArray.empty)) l.length := ⟨_, rfl⟩
  obtain ⟨xs, hx⟩ : ∃ xs, xs = l.map rowS := ⟨_, rfl⟩
  have hxl : xs.length = l.length := by rw [hx, List.length_map]
  rw [← hq, ← hx]
  obtain ⟨M, hM⟩ := mapEx
  try simp only [hM]
  refine go Tryz.func104 rfl rfl rfl rfl fun pAdd pSub pMul pQuo pRem pAnd pOr pXor pAndNot pShl pShr pNeg pCompl pConv pLt pLe pEq pSlt pSle pSeq pCat pCatOk pSlen pSsub pSat pIadd pIsub pBnot pBeq pImin pImax pLlen pLsub pLapp pLset pLcopy pLenOk pBytes pRep hF Ca hC r hr => ?_
  cbv
  refine loop_all (fun a st => st.n 8 (Int.ofNat a)) (fun i => !(fun u => !decide (u = nn)) (l.getD i ByteArray.empty)) l.length rfl (fun K' hK I i hi hp ih => ?_)
  cbv
  refine brkI (fun h => ?_) (fun h => ?_) <;> try cbv
  · have hs : i < l.length := hxl ▸ iltT hF h
    have e1 : pAdd .i64 (Int.ofNat i) 1 = Int.ofNat (i + 1) := add1Is hF (by omega)
    refine lgetM (fun u => [yS u]) (fun u => by simp only [rowS]) hx hs fun u hu => ?_
    cbv
    have hu' : l.getD i ByteArray.empty = u := getD_of hs hu
    refine callB hC (by have hh := blankCl_ok nn u; (try simp only [hM] at hh); exact hh) (fun h1 => ?_) (fun h1 => ?_) <;> try cbv
    · refine hK _ _ ?_
      cbv
      refine retN hr (hq.trans (firstTo_at hs (by rw [hu']; exact h1) fun j hj => ?_))
      exact (Bool.not_eq_true' _).mp (hp j hj)
    · conv => arg 1; cbv
      rw [e1]
      exact ih _ hs (by rw [hu', Bool.not_eq_true']; exact h1) rfl
  · have hs : i = l.length := Nat.le_antisymm hi (hxl ▸ iltF hF h)
    subst hs
    refine hK _ _ ?_
    cbv
    refine retN hr (hq.trans (firstTo_none fun j hj => ?_))
    exact (Bool.not_eq_true' _).mp (hp j hj)
theorem notBlank_cf (nn : ByteArray) (l : List ByteArray) (hl : l.length ≤ maxLen) : CallOK Tryz.prog 59 [.c (.y (.sl 1 (l.map rowS))), .fv 60 [[yS nn]]] (B (!allTo (fun i => !(fun u => !decide (u = nn)) (l.getD i ByteArray.empty)) l.length)) := by
  have hc := notBlank_ix nn l hl
  have hh := hasTo_is (fun i => (fun u => !decide (u = nn)) (l.getD i ByteArray.empty)) l.length
  rw [← hh]
  obtain ⟨q, hq⟩ : ∃ q, q = firstTo (fun i => (fun u => !decide (u = nn)) (l.getD i ByteArray.empty)) l.length := ⟨_, rfl⟩
  rw [← hq] at hc ⊢
  clear hq hh
  obtain ⟨M, hM⟩ := mapEx
  try simp only [hM]
  refine go Tryz.func59 rfl rfl rfl rfl fun pAdd pSub pMul pQuo pRem pAnd pOr pXor pAndNot pShl pShr pNeg pCompl pConv pLt pLe pEq pSlt pSle pSeq pCat pCatOk pSlen pSsub pSat pIadd pIsub pBnot pBeq pImin pImax pLlen pLsub pLapp pLset pLcopy pLenOk pBytes pRep hF Ca hC r hr => ?_
  cbv
  refine callN hC (by have hh := hc; (try simp only [hM] at hh); exact hh) (fun m hm => ?_)
  cbv
  refine brkI (fun h1 => ?_) (fun h1 => ?_) <;> try cbv
  all_goals exact retR hr (by rw [← hm, ← leD hF 0 m]; exact h1.symm)

def stoRight (s : Sto) : Bool := diskRight s.disk && decide (s.disk.secs.length = 700) && decide (s.disk.cache.length = 0) && dbRight s.db && decide (1 ≤ s.seq) && decide (s.seq ≤ 900000000) && decide (200 ≤ s.nxt) && decide (s.nxt ≤ 700) && blankB s.disk.secs s.nxt.toNat
theorem sStoreRight_ok (s : Sto) (hb : Sto.Bd 1048576 s) : CallOK Tryz.prog 23 [.agg [.y (.sl 1 (s.disk.secs.map rowS)), .y (.sl 2 (s.disk.cache.map Wr.row)), .y (.sl 5 (s.db.tabs.map Tbl.row)), .y (yN s.seq), .y (yN s.nxt)]] (B (stoRight s)) := by
  have c1 := sDiskRight_ok s.disk ⟨⟨Nat.le_trans hb.1.1.1 (by decide), fun v hv => Nat.le_trans (hb.1.1.2 v hv) (by decide)⟩, ⟨Nat.le_trans hb.1.2.1.1 (by decide), fun v hv => ⟨Nat.le_trans (hb.1.2.1.2 v hv).1 (by decide), trivial⟩⟩, trivial⟩
  have c2 := sDbRight_ok s.db hb.2.1
  have c3 := fun f hf => blank_ok s.disk f hb.1.1.1 hf
  have hq0 : stoRight s = (diskRight s.disk && decide (s.disk.secs.length = 700) && decide (s.disk.cache.length = 0) && dbRight s.db && decide (1 ≤ s.seq) && decide (s.seq ≤ 900000000) && decide (200 ≤ s.nxt) && decide (s.nxt ≤ 700) && blankB s.disk.secs s.nxt.toNat) := rfl
  obtain ⟨q, hq⟩ : ∃ q, q = stoRight s := ⟨_, rfl⟩
  rw [← hq] at hq0 ⊢
  obtain ⟨b1, hb1⟩ : ∃ x, x = diskRight s.disk := ⟨_, rfl⟩
  obtain ⟨b2, hb2⟩ : ∃ x, x = dbRight s.db := ⟨_, rfl⟩
  obtain ⟨n, hn⟩ : ∃ n, n = s.disk.secs.length := ⟨_, rfl⟩
  obtain ⟨nc, hnc⟩ : ∃ n, n = s.disk.cache.length := ⟨_, rfl⟩
  obtain ⟨bl, hbl⟩ : ∃ x, x = blankB s.disk.secs s.nxt.toNat := ⟨_, rfl⟩
  obtain ⟨sq, hsq⟩ : ∃ x, x = s.seq := ⟨_, rfl⟩
  obtain ⟨nx, hnx⟩ : ∃ x, x = s.nxt := ⟨_, rfl⟩
  rw [← hb1] at c1
  rw [← hb2] at c2
  rw [← hb1, ← hb2, ← hn, ← hnc, ← hbl, ← hsq, ← hnx] at hq0
  rw [← hsq, ← hnx]
  rw [← hnx] at hbl
  obtain ⟨M, hM⟩ := mapEx
  try simp only [hM]
  refine go Tryz.func23 rfl rfl rfl rfl fun pAdd pSub pMul pQuo pRem pAnd pOr pXor pAndNot pShl pShr pNeg pCompl pConv pLt pLe pEq pSlt pSle pSeq pCat pCatOk pSlen pSsub pSat pIadd pIsub pBnot pBeq pImin pImax pLlen pLsub pLapp pLset pLcopy pLenOk pBytes pRep hF Ca hC r hr => ?_
  cbv
  have ls : pLlen (M rowS s.disk.secs) = Int.ofNat n := (llenIs hF _).trans (by rw [← hM, List.length_map, ← hn]; rfl)
  have lc : pLlen (M Wr.row s.disk.cache) = Int.ofNat nc := (llenIs hF _).trans (by rw [← hM, List.length_map, ← hnc]; rfl)
  refine callB hC (by have hh := c1; (try simp only [hM] at hh); exact hh) (fun h1 => ?_) (fun h1 => ?_) <;> try cbv
  rotate_left
  · exact retB hr (by rw [hq0, h1]; rfl)
  rw [ls]
  refine brkI (fun h2 => ?_) (fun h2 => ?_) <;> try cbv
  rotate_left
  · have h2 := eqF hF h2
    exact retB hr (by rw [hq0, decide_eq_false (p := n = 700) (by ((try simp only [Int.ofNat_eq_natCast] at *); omega))]; simp)
  have h2 : n = 700 := by have h2 := eqT hF h2; ((try simp only [Int.ofNat_eq_natCast] at *); omega)
  rw [lc]
  refine brkI (fun h3 => ?_) (fun h3 => ?_) <;> try cbv
  rotate_left
  · have h3 := eqF hF h3
    exact retB hr (by rw [hq0, decide_eq_false (p := nc = 0) (by ((try simp only [Int.ofNat_eq_natCast] at *); omega))]; simp)
  have h3 : nc = 0 := by have h3 := eqT hF h3; ((try simp only [Int.ofNat_eq_natCast] at *); omega)
  refine callB hC (by have hh := c2; (try simp only [hM] at hh); exact hh) (fun h4 => ?_) (fun h4 => ?_) <;> try cbv
  rotate_left
  · exact retB hr (by rw [hq0, h4]; simp)
  refine brkI (fun h5 => ?_) (fun h5 => ?_) <;> try cbv
  rotate_left
  · have h5 := leF hF h5
    exact retB hr (by rw [hq0, decide_eq_false (p := 1 ≤ sq) (by ((try simp only [Int.ofNat_eq_natCast] at *); omega))]; simp)
  have h5 := leT hF h5
  refine brkI (fun h6 => ?_) (fun h6 => ?_) <;> try cbv
  rotate_left
  · have h6 := leF hF h6
    exact retB hr (by rw [hq0, decide_eq_false (p := sq ≤ 900000000) (by ((try simp only [Int.ofNat_eq_natCast] at *); omega))]; simp)
  have h6 := leT hF h6
  refine brkI (fun h7 => ?_) (fun h7 => ?_) <;> try cbv
  rotate_left
  · have h7 := leF hF h7
    exact retB hr (by rw [hq0, decide_eq_false (p := 200 ≤ nx) (by ((try simp only [Int.ofNat_eq_natCast] at *); omega))]; simp)
  have h7 := leT hF h7
  refine brkI (fun h8 => ?_) (fun h8 => ?_) <;> try cbv
  rotate_left
  · have h8 := leF hF h8
    exact retB hr (by rw [hq0, decide_eq_false (p := nx ≤ 700) (by ((try simp only [Int.ofNat_eq_natCast] at *); omega))]; simp)
  have h8 := leT hF h8
  obtain ⟨f, hf⟩ : ∃ f : Nat, nx = Int.ofNat f := ⟨nx.toNat, by ((try simp only [Int.ofNat_eq_natCast] at *); omega)⟩
  have cb := c3 f (by ((try simp only [Int.ofNat_eq_natCast] at *); omega))
  rw [show blankB s.disk.secs f = bl from by rw [hbl, hf]; rfl] at cb
  rw [← hf] at cb
  refine callB hC (by have hh := cb; (try simp only [hM] at hh); exact hh) (fun h9 => ?_) (fun h9 => ?_) <;> try cbv
  all_goals exact retB hr (by rw [hq0, h1, h4, h9, decide_eq_true h2, decide_eq_true h3, decide_eq_true h5, decide_eq_true h6, decide_eq_true h7, decide_eq_true h8]; rfl)
theorem iStoreRight_ok (s : Sto) (hb : Sto.Bd 1048576 s) : CallOK Tryz.prog 25 [.agg [.y (.sl 1 (s.disk.secs.map rowS)), .y (.sl 2 (s.disk.cache.map Wr.row)), .y (.sl 5 (s.db.tabs.map Tbl.row)), .y (yN s.seq), .y (yN s.nxt)]] (B (stoRight s)) := by
  have c1 := iDiskRight_ok s.disk ⟨⟨Nat.le_trans hb.1.1.1 (by decide), fun v hv => Nat.le_trans (hb.1.1.2 v hv) (by decide)⟩, ⟨Nat.le_trans hb.1.2.1.1 (by decide), fun v hv => ⟨Nat.le_trans (hb.1.2.1.2 v hv).1 (by decide), trivial⟩⟩, trivial⟩
  have c2 := iDbRight_ok s.db hb.2.1
  have ce := empty_ok
  have hq0 : stoRight s = (diskRight s.disk && decide (s.disk.secs.length = 700) && decide (s.disk.cache.length = 0) && dbRight s.db && decide (1 ≤ s.seq) && decide (s.seq ≤ 900000000) && decide (200 ≤ s.nxt) && decide (s.nxt ≤ 700) && blankB s.disk.secs s.nxt.toNat) := rfl
  obtain ⟨bk, hbk⟩ : ∃ b, b = zerosB 64 := ⟨_, rfl⟩
  rw [← hbk] at ce
  have c3 := fun (f : Nat) => notBlank_cf bk (s.disk.secs.drop f) (by rw [List.length_drop, maxLen_is]; have := hb.1.1.1; omega)
  have eqb : ∀ f, (!allTo (fun i => !(fun u => !decide (u = bk)) ((s.disk.secs.drop f).getD i ByteArray.empty)) (s.disk.secs.drop f).length) = !blankB s.disk.secs f := fun f => by
    rw [blankB, List.length_drop, ← hbk]
    congr 1
    refine allTo_congr fun i hi => ?_
    have e1 : (s.disk.secs.drop f).getD i ByteArray.empty = s.disk.secs.getD (f + i) noB := by
      rw [getD_at (by rw [List.length_drop]; omega), getD_at (by omega), List.getElem_drop]
    dsimp only
    rw [e1, Bool.not_not]
  simp only [eqb] at c3
  obtain ⟨q, hq⟩ : ∃ q, q = stoRight s := ⟨_, rfl⟩
  rw [← hq] at hq0 ⊢
  obtain ⟨b1, hb1⟩ : ∃ x, x = diskRight s.disk := ⟨_, rfl⟩
  obtain ⟨b2, hb2⟩ : ∃ x, x = dbRight s.db := ⟨_, rfl⟩
  obtain ⟨n, hn⟩ : ∃ n, n = s.disk.secs.length := ⟨_, rfl⟩
  obtain ⟨nc, hnc⟩ : ∃ n, n = s.disk.cache.length := ⟨_, rfl⟩
  obtain ⟨bl, hbl⟩ : ∃ x, x = blankB s.disk.secs s.nxt.toNat := ⟨_, rfl⟩
  obtain ⟨sq, hsq⟩ : ∃ x, x = s.seq := ⟨_, rfl⟩
  obtain ⟨nx, hnx⟩ : ∃ x, x = s.nxt := ⟨_, rfl⟩
  rw [← hb1] at c1
  rw [← hb2] at c2
  rw [← hb1, ← hb2, ← hn, ← hnc, ← hbl, ← hsq, ← hnx] at hq0
  rw [← hsq, ← hnx]
  rw [← hnx] at hbl
  have w1 := within_ok sq 1 900000000
  have w2 := within_ok nx 200 700
  obtain ⟨M, hM⟩ := mapEx
  try simp only [hM]
  refine go Tryz.func25 rfl rfl rfl rfl fun pAdd pSub pMul pQuo pRem pAnd pOr pXor pAndNot pShl pShr pNeg pCompl pConv pLt pLe pEq pSlt pSle pSeq pCat pCatOk pSlen pSsub pSat pIadd pIsub pBnot pBeq pImin pImax pLlen pLsub pLapp pLset pLcopy pLenOk pBytes pRep hF Ca hC r hr => ?_
  cbv
  have ls : pLlen (M rowS s.disk.secs) = Int.ofNat n := (llenIs hF _).trans (by rw [← hM, List.length_map, ← hn]; rfl)
  have lc : pLlen (M Wr.row s.disk.cache) = Int.ofNat nc := (llenIs hF _).trans (by rw [← hM, List.length_map, ← hnc]; rfl)
  refine callB hC (by have hh := c1; (try simp only [hM] at hh); exact hh) (fun h1 => ?_) (fun h1 => ?_) <;> try cbv
  rotate_left
  · exact retB hr (by rw [hq0, h1]; rfl)
  rw [ls]
  refine brkI (fun h2 => ?_) (fun h2 => ?_) <;> try cbv
  rotate_left
  · have h2 := eqF hF h2
    exact retB hr (by rw [hq0, decide_eq_false (p := n = 700) (by ((try simp only [Int.ofNat_eq_natCast] at *); omega))]; simp)
  have h2 : n = 700 := by have h2 := eqT hF h2; ((try simp only [Int.ofNat_eq_natCast] at *); omega)
  rw [lc]
  refine brkI (fun h3 => ?_) (fun h3 => ?_) <;> try cbv
  · have h3 := ltT hF h3
    exact retB hr (by rw [hq0, decide_eq_false (p := nc = 0) (by ((try simp only [Int.ofNat_eq_natCast] at *); omega))]; simp)
  have h3 : nc = 0 := by have h3 := ltF hF h3; ((try simp only [Int.ofNat_eq_natCast] at *); omega)
  refine callB hC (by have hh := c2; (try simp only [hM] at hh); exact hh) (fun h4 => ?_) (fun h4 => ?_) <;> try cbv
  rotate_left
  · exact retB hr (by rw [hq0, h4]; simp)
  refine callB hC w1 (fun h5 => ?_) (fun h5 => ?_) <;> try cbv
  rotate_left
  · exact retB hr (by rw [hq0]; rw [Bool.and_eq_false_iff] at h5; rcases h5 with h5 | h5 <;> rw [h5] <;> simp)
  refine callB hC w2 (fun h6 => ?_) (fun h6 => ?_) <;> try cbv
  rotate_left
  · exact retB hr (by rw [hq0]; rw [Bool.and_eq_false_iff] at h6; rcases h6 with h6 | h6 <;> rw [h6] <;> simp)
  rw [Bool.and_eq_true] at h5 h6
  refine callS hC (by have hh := ce; (try simp only [hM] at hh); exact hh) (fun z hz => ?_)
  cbv
  have h7 := of_decide_eq_true h6.1
  have h8 := of_decide_eq_true h6.2
  obtain ⟨f, hf⟩ : ∃ f : Nat, nx = Int.ofNat f := ⟨nx.toNat, by ((try simp only [Int.ofNat_eq_natCast] at *); omega)⟩
  have cb := c3 f
  rw [show blankB s.disk.secs f = bl from by rw [hbl, hf]; rfl] at cb
  rw [hf, ls]
  refine brT (zeroLe hF f) ?_
  refine brT (mkLe hF (by ((try simp only [Int.ofNat_eq_natCast] at *); omega))) ?_
  try cbv
  obtain ⟨df, hdf⟩ : ∃ x, x = n - f := ⟨_, rfl⟩
  have e2 : pIsub (Int.ofNat n) (Int.ofNat f) = Int.ofNat df := by
    have : prims.isub (Int.ofNat n) (Int.ofNat f) = Int.ofNat df := by
      show Int.ofNat n - Int.ofNat f = _
      ((try simp only [Int.ofNat_eq_natCast] at *); omega)
    rw [hF] at this; exact this
  have e3 : pLsub (M rowS s.disk.secs) (Int.ofNat f) (Int.ofNat df) = M rowS (s.disk.secs.drop f) := by
    have h : prims.lsub ((s.disk.secs).map rowS) (Int.ofNat f) (Int.ofNat df) = (s.disk.secs.drop f).map rowS := by
      show (((s.disk.secs).map rowS).drop f).take df = _
      rw [List.take_of_length_le (by rw [List.length_drop, List.length_map]; omega), List.map_drop]
    rw [hF, hM, hM] at h; exact h
  rw [e2, e3]
  rw [hz]
  refine callB hC (by have hh := cb; (try simp only [hM] at hh); exact hh) (fun h9 => ?_) (fun h9 => ?_) <;> try cbv
  all_goals exact retB hr (by
    have h9 : bl = _ := (Bool.not_not bl).symm.trans (congrArg _ h9)
    rw [hq0, h1, h4, h9, decide_eq_true h2, decide_eq_true h3, h5.1, h5.2, h6.1, h6.2]; rfl)
end Go.Proofs.YtnieabocheadpaaGreat
