/- Functions of the program, each with what it returns, run by the evaluator; the conditions stand in the theorems. -/
import Derived.Test.YtngnflfjacappaaLWrite2
import Derived.Test.YtngnflfjacappaaLRec2
import Derived.Test.YtngnflfjacappaaLFlat
namespace Go.Proofs.Ytngnflfjacappaa
open Go Go.Proofs.YtngnflfjacappaaW Go.Proofs
set_option linter.unusedVariables false
set_option linter.unusedSimpArgs false
set_option maxRecDepth 100000
set_option maxHeartbeats 8000000
def apDisk (d : Dsk) (a n : Int) (s : ByteArray) : Dsk := if recordRight n s then dwDisk d a (recordBytes n s) else ⟨[], []⟩
def apCode (d : Dsk) (a n : Int) (s : ByteArray) : Int := if recordRight n s then dwCode d a (recordBytes n s) else 1
theorem recordBytes_small (n : Int) (s : ByteArray) : (recordBytes n s).size ≤ maxLen := by
  rw [recordBytes]
  split
  · rename_i h
    have := recordText_size h
    rw [ByteArray.size_append]
    have : (four (crcBare (recordText n s))).size = 4 := rfl
    rw [maxLen_is]; omega
  · exact Nat.zero_le _
abbrev appRes (f : Dsk) (c : Int) : Res := ⟨.agg [.own 1 (f.secs.map rowS), .own 2 (f.cache.map Wr.row), .y (yS ⟨⟨[]⟩⟩), .y (yN c)], []⟩
theorem sLogAppend_ok (d : Dsk) (a n : Int) (s : ByteArray) (hm : Dsk.Bd 1048576 d) (ia : I64 a) : CallOK Try.prog 21 [.agg [.y (.sl 1 (d.secs.map rowS)), .y (.sl 2 (d.cache.map Wr.row))], aN a, .agg [.y (yN n), .y (yS s)]] (appRes (apDisk d a n s) (apCode d a n s)) := by
  have c1 := sRecordRight_ok n s
  have c2 := sRecordBytes_ok n s
  have c3 := sDiskWrite_ok d a (recordBytes n s) hm ia
  obtain ⟨f, hf⟩ : ∃ f, f = apDisk d a n s := ⟨_, rfl⟩
  obtain ⟨c, hc⟩ : ∃ f, f = apCode d a n s := ⟨_, rfl⟩
  rw [← hf, ← hc]
  rw [apDisk] at hf
  rw [apCode] at hc
  obtain ⟨b, hb⟩ : ∃ f, f = recordRight n s := ⟨_, rfl⟩
  obtain ⟨rb, hrb⟩ : ∃ f, f = recordBytes n s := ⟨_, rfl⟩
  rw [← hrb] at c2 c3 hf hc
  obtain ⟨g, hg⟩ : ∃ f, f = dwDisk d a rb := ⟨_, rfl⟩
  obtain ⟨e, he⟩ : ∃ f, f = dwCode d a rb := ⟨_, rfl⟩
  rw [← hg, ← he] at c3
  rw [← hg] at hf
  rw [← he] at hc
  rw [← hb] at c1 hf hc
  rw [appRes]
  obtain ⟨M, hM⟩ := mapEx
  try simp only [hM]
  refine go Try.func21 rfl rfl rfl rfl fun pAdd pSub pMul pQuo pRem pAnd pOr pXor pAndNot pShl pShr pNeg pCompl pConv pLt pLe pEq pSlt pSle pSeq pCat pCatOk pSlen pSsub pSat pIadd pIsub pBnot pBeq pImin pImax pLlen pLsub pLapp pLset pLcopy pLenOk pBytes pRep hF Ca hC r hr => ?_
  cbv
  refine callB hC c1 (fun h => ?_) (fun h => ?_) <;> try cbv
  · rw [h, if_pos rfl] at hf hc
    refine callS hC c2 (fun z hz => ?_)
    cbv
    subst hz
    have fDO := flatR_DO
    simp only [hM] at fDO
    refine callI hC (by have hh := c3; (try simp only [hM] at hh); exact hh) ?_
    cbv
    refine ⟨fDO _ _ _, ?_⟩
    rw [hr, hf, hc]
  · rw [h, if_neg (by decide)] at hf hc
    rw [hr, hf, hc]
    simp only [← hM]; rfl
theorem iLogAppend_ok (d : Dsk) (a n : Int) (s : ByteArray) (hm : Dsk.Bd 1048576 d) (ia : I64 a) : CallOK Try.prog 18 [.agg [.y (.sl 1 (d.secs.map rowS)), .y (.sl 2 (d.cache.map Wr.row))], aN a, .agg [.y (yN n), .y (yS s)]] (appRes (apDisk d a n s) (apCode d a n s)) := by
  have c1 := iRecordRight_ok n s
  have c2 := iRecordBytes_ok n s
  have c3 := iDiskWrite_ok d a (recordBytes n s) hm ia (recordBytes_small n s)
  obtain ⟨f, hf⟩ : ∃ f, f = apDisk d a n s := ⟨_, rfl⟩
  obtain ⟨c, hc⟩ : ∃ f, f = apCode d a n s := ⟨_, rfl⟩
  rw [← hf, ← hc]
  rw [apDisk] at hf
  rw [apCode] at hc
  obtain ⟨b, hb⟩ : ∃ f, f = recordRight n s := ⟨_, rfl⟩
  obtain ⟨rb, hrb⟩ : ∃ f, f = recordBytes n s := ⟨_, rfl⟩
  rw [← hrb] at c2 c3 hf hc
  obtain ⟨g, hg⟩ : ∃ f, f = dwDisk d a rb := ⟨_, rfl⟩
  obtain ⟨e, he⟩ : ∃ f, f = dwCode d a rb := ⟨_, rfl⟩
  rw [← hg, ← he] at c3
  rw [← hg] at hf
  rw [← he] at hc
  rw [← hb] at c1 hf hc
  rw [appRes]
  obtain ⟨M, hM⟩ := mapEx
  try simp only [hM]
  refine go Try.func18 rfl rfl rfl rfl fun pAdd pSub pMul pQuo pRem pAnd pOr pXor pAndNot pShl pShr pNeg pCompl pConv pLt pLe pEq pSlt pSle pSeq pCat pCatOk pSlen pSsub pSat pIadd pIsub pBnot pBeq pImin pImax pLlen pLsub pLapp pLset pLcopy pLenOk pBytes pRep hF Ca hC r hr => ?_
  cbv
  refine callB hC c1 (fun h => ?_) (fun h => ?_) <;> try cbv
  · rw [h, if_pos rfl] at hf hc
    refine callS hC c2 (fun z hz => ?_)
    cbv
    subst hz
    refine callI hC (by have hh := c3; (try simp only [hM] at hh); exact hh) ?_
    cbv
    refine ⟨⟨?_, ?_⟩, ?_⟩
    · intro a ha
      simp only [List.mem_cons, List.not_mem_nil, or_false] at ha
      rcases ha with rfl | rfl | rfl | rfl
      · exact fun x hx y hy => flat_rows flatS g.secs x (by rw [hM]; exact hx) y hy
      · exact fun x hx y hy => flat_rows flatWr g.cache x (by rw [hM]; exact hx) y hy
      · trivial
      · trivial
    · intro a ha
      exact absurd ha (by simp)
    rw [hr, hf, hc]
  · rw [h, if_neg (by decide)] at hf hc
    rw [hr, hf, hc]
    simp only [← hM]; rfl
theorem apDisk_bd {d : Dsk} (a n : Int) (s : ByteArray) (hm : Dsk.Bd 1048576 d) : Dsk.Bd 1048576 (apDisk d a n s) := by
  rw [apDisk]
  split
  · exact dwDisk_bd a _ hm
  · exact ⟨⟨by decide, by simp⟩, ⟨by decide, by simp⟩, trivial⟩
end Go.Proofs.Ytngnflfjacappaa
