/- Functions of the program, each with what it returns, run by the evaluator; the conditions stand in the theorems. -/
import Derived.Test.YtngnflfjacappaaLLog2
namespace Go.Proofs.Ytngnflfjacappaa
open Go Go.Proofs.YtngnflfjacappaaW Go.Proofs
set_option linter.unusedVariables false
set_option linter.unusedSimpArgs false
set_option maxRecDepth 100000
set_option maxHeartbeats 8000000
def lrOk (d : Dsk) (a seq : Int) : Bool := diskRight d && (decide (0 ≤ a) && decide (a < Int.ofNat d.secs.length)) && (decide (1 ≤ seq) && decide (seq ≤ 1000000000))
def lrList (d : Dsk) (a seq : Int) : List Rcd := if lrOk d a seq then (logGo (hasD d) 701 a.toNat seq).1 else []
def lrNext (d : Dsk) (a seq : Int) : Int := if lrOk d a seq then Int.ofNat (logGo (hasD d) 701 a.toNat seq).2 else 0
def lrCode (d : Dsk) (a seq : Int) : Int := if lrOk d a seq then 0 else 1
abbrev loRes (l : List Rcd) (n c : Int) : Res := ⟨.agg [.own 2 (l.map Rcd.row), .y (yN n), .y (yN c)], []⟩
theorem lrList_small (d : Dsk) (a seq : Int) : (lrList d a seq).length ≤ 700 ∧ ∀ r ∈ lrList d a seq, r.text.size ≤ 6000 := by
  rw [lrList]
  cases h : lrOk d a seq with
  | false => exact ⟨Nat.zero_le _, fun r hr => absurd hr (by simp)⟩
  | true =>
    simp only [lrOk, Bool.and_eq_true, decide_eq_true_eq] at h
    have h1 := diskRight_lens h.1.1
    have := logGo_len (hasD_64 h.1.1) 701 a.toNat seq (by rw [hasD_len]; ((try simp only [Int.ofNat_eq_natCast] at *); omega))
    rw [hasD_len] at this
    exact ⟨by simp only [if_true]; omega, by simpa using this.2.2⟩
theorem sLogRead_ok (d : Dsk) (a seq : Int) (hm : Dsk.Bd 1048576 d) (ia : I64 a) : CallOK Try.prog 16 [.agg [.y (.sl 1 (d.secs.map rowS)), .y (.sl 2 (d.cache.map Wr.row))], aN a, aN seq] (loRes (lrList d a seq) (lrNext d a seq) (lrCode d a seq)) := by
  have c1 := sDiskRight_ok d (Dsk.big hm)
  have c2 := l08Seq_ok seq
  have c3 := fun (f : Nat) h h1 h2 => sLog_ok d f seq h h1 h2
  have g0 : lrOk d a seq = false → lrList d a seq = [] ∧ lrNext d a seq = 0 ∧ lrCode d a seq = 1 := fun h => ⟨by rw [lrList, h]; rfl, by rw [lrNext, h]; rfl, by rw [lrCode, h]; rfl⟩
  have g1 : lrOk d a seq = true → lrList d a seq = (logGo (hasD d) 701 a.toNat seq).1 ∧ lrNext d a seq = Int.ofNat (logGo (hasD d) 701 a.toNat seq).2 ∧ lrCode d a seq = 0 := fun h => ⟨by rw [lrList, h]; rfl, by rw [lrNext, h]; rfl, by rw [lrCode, h]; rfl⟩
  obtain ⟨L, hL⟩ : ∃ x, x = lrList d a seq := ⟨_, rfl⟩
  obtain ⟨N1, hN1⟩ : ∃ x, x = lrNext d a seq := ⟨_, rfl⟩
  obtain ⟨C1, hC1⟩ : ∃ x, x = lrCode d a seq := ⟨_, rfl⟩
  have hok : lrOk d a seq = (diskRight d && (decide (0 ≤ a) && decide (a < Int.ofNat d.secs.length)) && (decide (1 ≤ seq) && decide (seq ≤ 1000000000))) := rfl
  obtain ⟨ok, hok'⟩ : ∃ x, x = lrOk d a seq := ⟨_, rfl⟩
  obtain ⟨b, hb⟩ : ∃ b, b = diskRight d := ⟨_, rfl⟩
  obtain ⟨sb, hsb⟩ : ∃ b, b = (decide (1 ≤ seq) && decide (seq ≤ 1000000000)) := ⟨_, rfl⟩
  obtain ⟨n, hn⟩ : ∃ n, n = d.secs.length := ⟨_, rfl⟩
  rw [← hok', ← hb, ← hsb, ← hn] at hok
  rw [← hok', ← hL, ← hN1, ← hC1] at g0 g1
  rw [← hL, ← hN1, ← hC1]
  rw [← hb] at c1 c3
  rw [← hsb] at c2
  rw [← hn] at c3
  clear hL hN1 hC1 hok'
  obtain ⟨M, hM⟩ := mapEx
  try simp only [hM]
  refine go Try.func16 rfl rfl rfl rfl fun pAdd pSub pMul pQuo pRem pAnd pOr pXor pAndNot pShl pShr pNeg pCompl pConv pLt pLe pEq pSlt pSle pSeq pCat pCatOk pSlen pSsub pSat pIadd pIsub pBnot pBeq pImin pImax pLlen pLsub pLapp pLset pLcopy pLenOk pBytes pRep hF Ca hC r hr => ?_
  cbv
  have ls : pLlen (M rowS d.secs) = Int.ofNat n := (llenIs hF _).trans (by rw [← hM, List.length_map, ← hn]; rfl)
  have fail : ok = false → loRes [] 0 1 = r := fun h => by
    obtain ⟨e1, e2, e3⟩ := g0 h
    rw [hr, e1, e2, e3]
  refine callB hC (by have hh := c1; (try simp only [hM] at hh); exact hh) (fun h => ?_) (fun h => ?_) <;> try cbv
  rotate_left
  · exact fail (by rw [hok, h]; rfl)
  rw [h, Bool.true_and] at hok
  refine brkI (fun h1 => ?_) (fun h1 => ?_) <;> try cbv
  · exact fail (by rw [hok, decide_eq_false (by have := ltT hF h1; omega)]; rfl)
  have h1 := ltF hF h1
  rw [decide_eq_true h1, Bool.true_and] at hok
  rw [ls]
  refine brkI (fun h2 => ?_) (fun h2 => ?_) <;> try cbv
  · exact fail (by rw [hok, decide_eq_false (by have := leT hF h2; omega)]; rfl)
  have h2 := leF hF h2
  rw [decide_eq_true h2, Bool.true_and] at hok
  refine callI hC c2 ?_
  cases sb <;> cbv
  · exact fail hok
  obtain ⟨f, hf⟩ : ∃ f : Nat, a = Int.ofNat f := ⟨a.toNat, by ((try simp only [Int.ofNat_eq_natCast] at *); omega)⟩
  have hsb := hsb.symm
  simp only [Bool.and_eq_true, decide_eq_true_eq] at hsb
  have c3 := c3 f h (by ((try simp only [Int.ofNat_eq_natCast] at *); omega)) hsb
  obtain ⟨e1, e2, e3⟩ := g1 hok
  rw [hf, show (Int.ofNat f).toNat = f from rfl] at e1 e2
  rw [← e1, ← e2] at c3
  rw [hf]
  refine callI hC (by have hh := c3; (try simp only [hM] at hh); exact hh) ?_
  cbv
  rw [e3] at hr
  rw [hr]
  simp only [hM]
theorem iLogRead_ok (d : Dsk) (a seq : Int) (hm : Dsk.Bd 1048576 d) (ia : I64 a) : CallOK Try.prog 15 [.agg [.y (.sl 1 (d.secs.map rowS)), .y (.sl 2 (d.cache.map Wr.row))], aN a, aN seq] (loRes (lrList d a seq) (lrNext d a seq) (lrCode d a seq)) := by
  have c1 := iDiskRight_ok d (Dsk.big hm)
  have c2 := isSeq_ok seq
  have c3 := fun (f : Nat) h h1 h2 => iLog_ok d f seq h h1 h2
  have c4 := within_ok a 0 (Int.ofNat d.secs.length - 1)
  have hsl := hm.1.1
  have g0 : lrOk d a seq = false → lrList d a seq = [] ∧ lrNext d a seq = 0 ∧ lrCode d a seq = 1 := fun h => ⟨by rw [lrList, h]; rfl, by rw [lrNext, h]; rfl, by rw [lrCode, h]; rfl⟩
  have g1 : lrOk d a seq = true → lrList d a seq = (logGo (hasD d) 701 a.toNat seq).1 ∧ lrNext d a seq = Int.ofNat (logGo (hasD d) 701 a.toNat seq).2 ∧ lrCode d a seq = 0 := fun h => ⟨by rw [lrList, h]; rfl, by rw [lrNext, h]; rfl, by rw [lrCode, h]; rfl⟩
  obtain ⟨L, hL⟩ : ∃ x, x = lrList d a seq := ⟨_, rfl⟩
  obtain ⟨N1, hN1⟩ : ∃ x, x = lrNext d a seq := ⟨_, rfl⟩
  obtain ⟨C1, hC1⟩ : ∃ x, x = lrCode d a seq := ⟨_, rfl⟩
  have hok : lrOk d a seq = (diskRight d && (decide (0 ≤ a) && decide (a < Int.ofNat d.secs.length)) && (decide (1 ≤ seq) && decide (seq ≤ 1000000000))) := rfl
  obtain ⟨ok, hok'⟩ : ∃ x, x = lrOk d a seq := ⟨_, rfl⟩
  obtain ⟨b, hb⟩ : ∃ b, b = diskRight d := ⟨_, rfl⟩
  obtain ⟨sb, hsb⟩ : ∃ b, b = (decide (1 ≤ seq) && decide (seq ≤ 1000000000)) := ⟨_, rfl⟩
  obtain ⟨n, hn⟩ : ∃ n, n = d.secs.length := ⟨_, rfl⟩
  rw [← hok', ← hb, ← hsb, ← hn] at hok
  rw [← hok', ← hL, ← hN1, ← hC1] at g0 g1
  rw [← hL, ← hN1, ← hC1]
  rw [← hb] at c1 c3
  rw [← hsb] at c2
  rw [← hn] at c3 c4 hsl
  obtain ⟨n1, hn1⟩ : ∃ x, x = Int.ofNat n - 1 := ⟨_, rfl⟩
  rw [← hn1] at c4
  obtain ⟨wb, hwb⟩ : ∃ b, b = (decide (0 ≤ a) && decide (a ≤ n1)) := ⟨_, rfl⟩
  have hwb2 : wb = (decide (0 ≤ a) && decide (a < Int.ofNat n)) := by
    rw [hwb, hn1, Bool.eq_iff_iff]
    simp only [Bool.and_eq_true, decide_eq_true_eq]
    omega
  rw [← hwb2] at hok
  rw [← hwb] at c4
  clear hL hN1 hC1 hok'
  obtain ⟨M, hM⟩ := mapEx
  try simp only [hM]
  refine go Try.func15 rfl rfl rfl rfl fun pAdd pSub pMul pQuo pRem pAnd pOr pXor pAndNot pShl pShr pNeg pCompl pConv pLt pLe pEq pSlt pSle pSeq pCat pCatOk pSlen pSsub pSat pIadd pIsub pBnot pBeq pImin pImax pLlen pLsub pLapp pLset pLcopy pLenOk pBytes pRep hF Ca hC r hr => ?_
  cbv
  have ls : pLlen (M rowS d.secs) = Int.ofNat n := (llenIs hF _).trans (by rw [← hM, List.length_map, ← hn]; rfl)
  have fail : ok = false → loRes [] 0 1 = r := fun h => by
    obtain ⟨e1, e2, e3⟩ := g0 h
    rw [hr, e1, e2, e3]
  refine callB hC (by have hh := c1; (try simp only [hM] at hh); exact hh) (fun h => ?_) (fun h => ?_) <;> try cbv
  rotate_left
  · exact fail (by rw [hok, h]; rfl)
  rw [h, Bool.true_and] at hok
  rw [ls, show pSub .i64 (Int.ofNat n) 1 = n1 from by rw [hn1]; exact subIs hF (by ((try simp only [Int.ofNat_eq_natCast] at *); omega)) (by ((try simp only [Int.ofNat_eq_natCast] at *); omega))]
  refine callI hC c4 ?_
  cases wb <;> cbv
  · exact fail hok
  rw [Bool.true_and] at hok
  refine callI hC c2 ?_
  cases sb <;> cbv
  · exact fail hok
  have hwb2 := hwb2.symm
  simp only [Bool.and_eq_true, decide_eq_true_eq] at hwb2
  obtain ⟨f, hf⟩ : ∃ f : Nat, a = Int.ofNat f := ⟨a.toNat, by ((try simp only [Int.ofNat_eq_natCast] at *); omega)⟩
  have hsb := hsb.symm
  simp only [Bool.and_eq_true, decide_eq_true_eq] at hsb
  have c3 := c3 f h (by ((try simp only [Int.ofNat_eq_natCast] at *); omega)) hsb
  obtain ⟨e1, e2, e3⟩ := g1 hok
  rw [hf, show (Int.ofNat f).toNat = f from rfl] at e1 e2
  rw [← e1, ← e2] at c3
  rw [hf]
  refine callI hC (by have hh := c3; (try simp only [hM] at hh); exact hh) ?_
  cbv
  rw [e3] at hr
  rw [hr]
  simp only [hM]
end Go.Proofs.Ytngnflfjacappaa
