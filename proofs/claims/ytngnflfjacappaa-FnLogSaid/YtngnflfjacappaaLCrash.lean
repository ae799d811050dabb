/- Functions of the program, each with what it returns, run by the evaluator; the conditions stand in the theorems. -/
import Derived.Test.YtngnflfjacappaaLDisk
namespace Go.Proofs.Ytngnflfjacappaa
open Go Go.Proofs.YtngnflfjacappaaW Go.Proofs
set_option linter.unusedVariables false
set_option linter.unusedSimpArgs false
set_option maxRecDepth 100000
set_option maxHeartbeats 8000000
def crash (d : Dsk) (keep : List Bool) : Dsk := if 400 < keep.length then ⟨[], []⟩ else if diskRight d then ⟨putsTo d (keepAt false keep) d.cache.length, []⟩ else d
theorem crash_long {d : Dsk} {keep : List Bool} (h : 400 < keep.length) : crash d keep = ⟨[], []⟩ := if_pos h
theorem crash_t {d : Dsk} {keep : List Bool} (h : ¬ 400 < keep.length) (h2 : diskRight d = true) : crash d keep = ⟨putsTo d (keepAt false keep) d.cache.length, []⟩ := (if_neg h).trans (ite_t h2)
theorem crash_f {d : Dsk} {keep : List Bool} (h : ¬ 400 < keep.length) (h2 : diskRight d = false) : crash d keep = d := (if_neg h).trans (ite_f h2)
theorem isMany_ok (n : Int) : CallOK Try.prog 37 [aN n] (B (decide (400 < n))) := by
  obtain ⟨M, hM⟩ := mapEx
  try simp only [hM]
  refine go Try.func37 rfl rfl rfl rfl fun pAdd pSub pMul pQuo pRem pAnd pOr pXor pAndNot pShl pShr pNeg pCompl pConv pLt pLe pEq pSlt pSle pSeq pCat pCatOk pSlen pSsub pSat pIadd pIsub pBnot pBeq pImin pImax pLlen pLsub pLapp pLset pLcopy pLenOk pBytes pRep hF Ca hC r hr => ?_
  cbv
  refine brkI (fun h => ?_) (fun h => ?_) <;> try cbv
  all_goals exact retR hr (by rw [← ltD hF]; exact h.symm)
theorem sCrash_ok (d : Dsk) (keep : List Bool) (hm : Dsk.Bd 1048576 d) (hk : keep.length ≤ maxLen) : CallOK Try.prog 59 [.agg [.y (.sl 1 (d.secs.map rowS)), .y (.sl 2 (d.cache.map Wr.row))], .c (.y (.sl 1 (keep.map rowB)))] (ownD (crash d keep).secs (crash d keep).cache) := by
  have c1 := sDiskRight_ok d (Dsk.big hm)
  have c2 := sCopy_ok d hm
  have c3 := fun h => l07Flush_ok d keep false h hk
  obtain ⟨f, hf⟩ : ∃ f, f = crash d keep := ⟨_, rfl⟩
  obtain ⟨ks, hks⟩ : ∃ ks, ks = keep.map rowB := ⟨_, rfl⟩
  have hkl : ks.length = keep.length := by rw [hks, List.length_map]
  rw [← hf, ← hks]
  rw [← hks] at c3
  rw [ownD] at c2 ⊢
  obtain ⟨M, hM⟩ := mapEx
  try simp only [hM]
  refine go Try.func59 rfl rfl rfl rfl fun pAdd pSub pMul pQuo pRem pAnd pOr pXor pAndNot pShl pShr pNeg pCompl pConv pLt pLe pEq pSlt pSle pSeq pCat pCatOk pSlen pSsub pSat pIadd pIsub pBnot pBeq pImin pImax pLlen pLsub pLapp pLset pLcopy pLenOk pBytes pRep hF Ca hC r hr => ?_
  cbv
  have e1 : pLlen ks = Int.ofNat keep.length := by rw [← hkl]; exact llenIs hF ks
  refine brkI (fun h => ?_) (fun h => ?_) <;> try cbv
  · have h := ltT hF h
    rw [e1] at h
    rw [crash_long (by ((try simp only [Int.ofNat_eq_natCast] at *); omega))] at hf
    rw [hr, hf]
    simp only [← hM]; rfl
  · have h := ltF hF h
    rw [e1] at h
    have h : ¬ 400 < keep.length := by ((try simp only [Int.ofNat_eq_natCast] at *); omega)
    refine callB hC (by have hh := c1; (try simp only [hM] at hh); exact hh) (fun h1 => ?_) (fun h1 => ?_) <;> try cbv
    · rw [crash_t h h1] at hf
      refine callI hC (by have hh := c3 h1; (try simp only [hM] at hh); exact hh) ?_
      cbv
      rw [hr, hf]
      simp only [← hM]; rfl
    · rw [crash_f h h1] at hf
      refine callI hC (by have hh := c2; (try simp only [hM] at hh); exact hh) ?_
      cbv
      rw [hr, hf]
theorem iCrash_ok (d : Dsk) (keep : List Bool) (hm : Dsk.Bd 1048576 d) (hk : keep.length ≤ maxLen) : CallOK Try.prog 11 [.agg [.y (.sl 1 (d.secs.map rowS)), .y (.sl 2 (d.cache.map Wr.row))], .c (.y (.sl 1 (keep.map rowB)))] (ownD (crash d keep).secs (crash d keep).cache) := by
  have c1 := iDiskRight_ok d (Dsk.big hm)
  have c2 := iCopy_ok d hm
  have c3 := cloneS_ok d.secs (by have := hm.1.1; omega)
  have b2 := hm.2.1.1
  have hat := fun h i hi => diskRight_at (d := d) h (i := i) hi
  rw [maxLen_is] at hk
  obtain ⟨f, hf⟩ : ∃ f, f = crash d keep := ⟨_, rfl⟩
  obtain ⟨ks, hks⟩ : ∃ ks, ks = keep.map rowB := ⟨_, rfl⟩
  have hkl : ks.length = keep.length := by rw [hks, List.length_map]
  obtain ⟨xs, hx⟩ : ∃ xs, xs = d.secs.map rowS := ⟨_, rfl⟩
  have hxl : xs.length = d.secs.length := by rw [hx, List.length_map]
  obtain ⟨ws, hws⟩ : ∃ ws, ws = d.cache.map Wr.row := ⟨_, rfl⟩
  have hwl : ws.length = d.cache.length := by rw [hws, List.length_map]
  rw [← hf, ← hks, ← hx, ← hws]
  rw [← hx, ← hws] at c1 c2
  rw [← hx] at c3
  rw [ownD] at c2 ⊢
  have c4 := isMany_ok (Int.ofNat keep.length)
  obtain ⟨n, hn⟩ : ∃ n, n = Int.ofNat keep.length := ⟨_, rfl⟩
  rw [← hn] at c4
  rw [← hx, ← hws] at c2
  obtain ⟨M, hM⟩ := mapEx
  try simp only [hM]
  refine go Try.func11 rfl rfl rfl rfl fun pAdd pSub pMul pQuo pRem pAnd pOr pXor pAndNot pShl pShr pNeg pCompl pConv pLt pLe pEq pSlt pSle pSeq pCat pCatOk pSlen pSsub pSat pIadd pIsub pBnot pBeq pImin pImax pLlen pLsub pLapp pLset pLcopy pLenOk pBytes pRep hF Ca hC r hr => ?_
  cbv
  have e1 : pLlen ks = n := by rw [hn, ← hkl]; exact llenIs hF ks
  rw [e1]
  refine callB hC c4 (fun h => ?_) (fun h => ?_) <;> try cbv
  · rw [hn] at h
    rw [crash_long (by (first | (simp only [Bool.or_eq_true, Bool.and_eq_true, Bool.not_eq_true', Bool.or_eq_false_iff, Bool.and_eq_false_iff, Bool.not_eq_false', decide_eq_true_eq, decide_eq_false_iff_not, Bool.not_false, Bool.not_true, Bool.and_true, Bool.true_and, Bool.or_false, Bool.false_or, and_true, true_and, Int.ofNat_eq_natCast] at *; omega) | (simp only [Bool.eq_false_iff, ne_eq, Bool.or_eq_true, Bool.and_eq_true, Bool.not_eq_true', decide_eq_true_eq, decide_eq_false_iff_not, Bool.not_false, Bool.not_true, Bool.and_true, Bool.true_and, Bool.or_false, Bool.false_or, and_true, true_and, Int.ofNat_eq_natCast] at *; omega) | (simp only [Bool.or_eq_true, Bool.and_eq_true, Bool.not_eq_true', Bool.or_eq_false_iff, Bool.and_eq_false_iff, Bool.not_eq_false', decide_eq_true_eq, decide_eq_false_iff_not, Bool.not_false, Bool.not_true, Bool.and_true, Bool.true_and, Bool.or_false, Bool.false_or, and_true, true_and, Int.ofNat_eq_natCast] at *; grind) | grind))] at hf
    rw [hr, hf]
    simp only [← hM]; rfl
  · rw [hn] at h
    have h : ¬ 400 < keep.length := by (first | (simp only [Bool.or_eq_true, Bool.and_eq_true, Bool.not_eq_true', Bool.or_eq_false_iff, Bool.and_eq_false_iff, Bool.not_eq_false', decide_eq_true_eq, decide_eq_false_iff_not, Bool.not_false, Bool.not_true, Bool.and_true, Bool.true_and, Bool.or_false, Bool.false_or, and_true, true_and, Int.ofNat_eq_natCast] at *; omega) | (simp only [Bool.eq_false_iff, ne_eq, Bool.or_eq_true, Bool.and_eq_true, Bool.not_eq_true', decide_eq_true_eq, decide_eq_false_iff_not, Bool.not_false, Bool.not_true, Bool.and_true, Bool.true_and, Bool.or_false, Bool.false_or, and_true, true_and, Int.ofNat_eq_natCast] at *; omega) | (simp only [Bool.or_eq_true, Bool.and_eq_true, Bool.not_eq_true', Bool.or_eq_false_iff, Bool.and_eq_false_iff, Bool.not_eq_false', decide_eq_true_eq, decide_eq_false_iff_not, Bool.not_false, Bool.not_true, Bool.and_true, Bool.true_and, Bool.or_false, Bool.false_or, and_true, true_and, Int.ofNat_eq_natCast] at *; grind) | grind)
    refine callB hC (by have hh := c1; (try simp only [hM] at hh); exact hh) (fun h1 => ?_) (fun h1 => ?_) <;> try cbv
    · rw [crash_t h h1] at hf
      have hat := hat h1
      refine callI hC (by have hh := c3; (try simp only [hM] at hh); exact hh) ?_
      cbv
      refine loop_u (α := Nat × List (List Y)) (fun a st => (st.n 26 (Int.ofNat a.1)).ob 5001 (.ar 1 a.2)) (fun a => a.1 ≤ d.cache.length ∧ a.2 = (putsTo d (keepAt false keep) a.1).map rowS) (fun a => d.cache.length - a.1) (0, xs) rfl ⟨by omega, hx⟩ (fun K' hK I a hi ih => ?_)
      obtain ⟨i, zs⟩ := a
      obtain ⟨hi, hz⟩ := hi
      dsimp only at hi hz
      have hzl : zs.length = d.secs.length := by rw [hz, List.length_map, putsTo_len]
      cbv
      refine brkI (fun h => ?_) (fun h => ?_) <;> try cbv
      · have hs : i < d.cache.length := hwl ▸ iltT hF h
        have e1 : pAdd .i64 (Int.ofNat i) 1 = Int.ofNat (i + 1) := add1Is hF (by omega)
        obtain ⟨u, hu⟩ : ∃ u, u = d.cache[i] := ⟨_, rfl⟩
        have hu' : d.cache.getD i default = u := getD_of hs hu
        have hb := hat i hs
        rw [hu'] at hb
        have hjl : u.at_.toNat < (putsTo d (keepAt false keep) i).length := by rw [putsTo_len]; have := hb.2.1; ((try simp only [Int.ofNat_eq_natCast] at *); omega)
        obtain ⟨x0, hx0⟩ : ∃ x0, x0 = (putsTo d (keepAt false keep) i)[u.at_.toNat] := ⟨_, rfl⟩
        have hget : LGet zs u.at_ [yS x0] := ⟨hb.1, row_get hz hjl hx0⟩
        have g1 : pLe 0 u.at_ = true := mkLe hF hb.1
        have g2 : pLt u.at_ (pLlen zs) = true := mkLt hF (by rw [show pLlen zs = Int.ofNat zs.length from llenIs hF zs, hzl]; exact hb.2.1)
        have put : keepAt false keep i = true → pLset zs u.at_ [yS u.text] = (putsTo d (keepAt false keep) (i + 1)).map rowS := fun hk => by
          rw [putsTo_t hk, hu']; exact lset_row hF hz u.at_ u.text
        have not : keepAt false keep i = false → zs = (putsTo d (keepAt false keep) (i + 1)).map rowS := fun hk => by rw [putsTo_f hk, hz]
        have ka : keepAt false keep i = (false || (decide (i < keep.length) && keep.getD i false)) := rfl
        repeat' (first
          | refine brT g1 ?_
          | refine brT g2 ?_
          | (refine ⟨[yS x0], hget, ?_⟩; cbv)
          | (refine lgetM (fun u => [yN u.at_, yS u.text]) (fun u => by simp only [Wr.row, hM]) hws hs fun v hv => ?_; rw [show v = u from hv.trans hu.symm]; cbv)
          | (refine lgetM (fun u => [yB u]) (fun u => by simp only [rowB]) hks (by have := iltT hF ‹pLt (Int.ofNat i) (pLlen ks) = true›; omega) fun b hb' => ?_; cases b <;> cbv)
          | (refine brkI (fun h3 => ?_) (fun h3 => ?_) <;> try cbv))
        all_goals conv => arg 1; cbv
        all_goals rw [e1]
        all_goals first
          | refine ih (i + 1, _) _ ⟨hs, put (ka.trans ?_)⟩ (by dsimp only; omega) rfl
          | refine ih (i + 1, _) _ ⟨hs, not (ka.trans ?_)⟩ (by dsimp only; omega) rfl
        all_goals first
          | (have := iltT hF ‹pLt (Int.ofNat i) (pLlen ks) = true›
             rw [hkl] at this
             rw [decide_eq_true this, getD_of this ‹_ = keep[i]›]; rfl)
          | (have := iltF hF ‹pLt (Int.ofNat i) (pLlen ks) = false›
             rw [hkl] at this
             rw [decide_eq_false (Nat.not_lt.2 this)]; rfl)
      · have hs : i = d.cache.length := Nat.le_antisymm hi (hwl ▸ iltF hF h)
        subst hs
        refine hK _ _ ?_
        cbv
        rw [hr, hf, hz]
        simp only [← hM]; rfl
    · rw [crash_f h h1] at hf
      refine callI hC (by have hh := c2; (try simp only [hM] at hh); exact hh) ?_
      cbv
      rw [hr, hf]
      simp only [← hM, hx, hws]
theorem crash_bd {d : Dsk} {M : Nat} (h : Dsk.Bd M d) (keep : List Bool) : Dsk.Bd M (crash d keep) := by
  by_cases hk : 400 < keep.length
  · rw [crash_long hk]; exact ⟨⟨by simp, by simp⟩, ⟨by simp, by simp⟩, trivial⟩
  · cases hd : diskRight d with
    | true => rw [crash_t hk hd]; exact puts_bd h _
    | false => rw [crash_f hk hd]; exact h
end Go.Proofs.Ytngnflfjacappaa
