/- Functions of the program, each with what it returns, run by the evaluator; the conditions stand in the theorems. -/
import Derived.Test.YtemfaiabbonpnaaLFSeal
namespace Go.Proofs.Ytemfaiabbonpnaa
open Go Go.Proofs.YtemfaiabbonpnaaW Go.Proofs
set_option linter.unusedVariables false
set_option linter.unusedSimpArgs false
set_option maxRecDepth 100000
set_option maxHeartbeats 1600000
theorem lawSeal2_ok (code more : List UInt8) : CallOK Try.prog 3 [.c (.y (.sl 1 (bytesL code))), .c (.y (.sl 1 (bytesL more)))] (B true) := by
  have cS := drawSeal_ok code
  have cm : more.length ≤ 1048576 → IsCode (bytesL more) := fun h => ⟨more, rfl, h⟩
  have lw := fun h i most hi hm => lwAt_ok more h i most hi hm
  have lc : (bytesL code).length = code.length := by rw [bytesL, List.length_map]
  have lm : (bytesL more).length = more.length := by rw [bytesL, List.length_map]
  obtain ⟨xs, hx⟩ : ∃ xs, xs = bytesL code := ⟨_, rfl⟩
  obtain ⟨ys, hy⟩ : ∃ xs, xs = bytesL more := ⟨_, rfl⟩
  rw [← hx] at cS lc ⊢
  rw [← hy] at cm lm lw ⊢
  clear hx hy
  have ciS := iSeal_ok
  have csS := sSeal_ok
  have ciU := iUnseal_ok
  have ciC := iCrc_ok
  have ciM := iCrcMore_ok
  have csM := sCrcMore_ok
  have cD := @drawCrcMore_q
  have lr := fun i most h => @lwVal_range more i most h
  obtain ⟨lv, hlv⟩ : ∃ f, f = lwVal more := ⟨_, rfl⟩
  rw [← hlv] at lw lr
  clear hlv
  have pU := @unseal_ok
  have pT := @unseal_turned
  have pM := @crc_on
  have zS := @seal_size
  have nS : ∀ t : ByteArray, 19996 < t.size → sealOf t = ⟨⟨[]⟩⟩ := fun t h => if_pos h
  obtain ⟨so, hso⟩ : ∃ f, f = sealOf := ⟨_, rfl⟩
  rw [← hso] at ciS csS pU pT zS nS
  obtain ⟨co, hco⟩ : ∃ f, f = crcOf := ⟨_, rfl⟩
  rw [← hco] at ciC pM
  obtain ⟨cmo, hcmo⟩ : ∃ f, f = crcMore := ⟨_, rfl⟩
  rw [← hcmo] at ciM csM pM
  obtain ⟨ut, hut⟩ : ∃ f, f = unText := ⟨_, rfl⟩
  obtain ⟨uc, huc⟩ : ∃ f, f = unCode := ⟨_, rfl⟩
  rw [← hut] at ciU pU
  rw [← huc] at ciU pU pT
  obtain ⟨tb, htb⟩ : ∃ f, f = turnB := ⟨_, rfl⟩
  have htb' : ∀ s i x, (tb s i x) = ⟨⟨s.data.toList.set i x⟩⟩ := fun s i x => by rw [htb]; rfl
  rw [← htb] at pT
  clear hso hco hcmo hut huc htb
  obtain ⟨M, hM⟩ := mapEx
  try simp only [hM]
  refine go Try.func3 rfl rfl rfl rfl fun pAdd pSub pMul pQuo pRem pAnd pOr pXor pAndNot pShl pShr pNeg pCompl pConv pLt pLe pEq pSlt pSle pSeq pCat pCatOk pSlen pSsub pSat pIadd pIsub pBnot pBeq pImin pImax pLlen pLsub pLapp pLset pLcopy pLenOk pBytes pRep hF Ca hC r hr => ?_
  cbv
  refine brkI (fun h => ?_) (fun h => ?_) <;> try cbv
  · exact hr.symm
  have h := ltF hF h
  rw [show pLlen xs = Int.ofNat code.length from (llenIs hF _).trans (by rw [lc]; rfl)] at h
  refine brkI (fun h2 => ?_) (fun h2 => ?_) <;> try cbv
  · exact hr.symm
  have h2 := ltF hF h2
  rw [show pLlen ys = Int.ofNat more.length from (llenIs hF _).trans (by rw [lm]; rfl)] at h2
  have hm1 : more.length ≤ 1048576 := by ((try simp only [Int.ofNat_eq_natCast] at *); omega)
  have cm := cm hm1
  have lw := lw hm1
  obtain ⟨t, ht, cS⟩ := cS (by ((try simp only [Int.ofNat_eq_natCast] at *); omega))
  have tm : t.size ≤ maxLen := by rw [maxLen_is]; omega
  refine callI hC cS ?_
  cbv
  have c1 := ciS t tm
  have c2 := csS t tm
  have e1 := nS t
  have e2 := @zS t
  have e3 := @pU t
  have e4 := @pT t
  obtain ⟨s, hs⟩ : ∃ s, s = so t := ⟨_, rfl⟩
  rw [← hs] at c1 c2 e1 e2 e3 e4
  clear hs
  refine callI hC c1 ?_
  cbv
  refine callI hC c2 ?_
  cbv
  refine brT (mkSeq hF rfl) ?_
  try cbv
  have et : pSlen t = Int.ofNat t.size := slenIs hF t
  refine brkI (fun h3 => ?_) (fun h3 => ?_) <;> try cbv
  · skip
    refine callQ2 hC (cD cm) (fun q u hu => ?_)
    cbv
    rw [et, show pSlen u = Int.ofNat u.size from slenIs hF u]
    have ea : pAdd .i64 (Int.ofNat t.size) (Int.ofNat u.size) = Int.ofNat (t.size + u.size) := addNIs hF (by omega)
    rw [ea]
    refine brkI (fun g => ?_) (fun g => ?_) <;> try cbv
    · exact hr.symm
    have g := ltF hF g
    have gs : t.size + u.size ≤ 20000 := by ((try simp only [Int.ofNat_eq_natCast] at *); omega)
    have um : u.size ≤ maxLen := by rw [maxLen_is]; omega
    refine callI hC (ciM q u um) ?_
    cbv
    refine callI hC (csM q u um) ?_
    cbv
    refine brT (mkEq hF rfl) ?_
    try cbv
    refine callI hC (ciC t tm) ?_
    cbv
    refine callI hC (ciM (co t) u um) ?_
    cbv
    refine brT (catOkIs hF (by omega)) ?_
    try cbv
    have ecat : pCat t u = t ++ u := catIs hF t u
    obtain ⟨tu, htu⟩ : ∃ x, x = pCat t u := ⟨_, rfl⟩
    have hp := pM gs
    rw [← ecat, ← htu] at hp
    have tum : tu.size ≤ maxLen := by rw [htu, ecat, ByteArray.size_append, maxLen_is]; omega
    rw [← htu]
    refine callI hC (ciC tu tum) ?_
    cbv
    refine brT (mkEq hF hp) ?_
    try cbv
    exact hr.symm
  have h3 := seqF hF h3
  have h3 : t.size ≤ 19996 := by
    by_cases h4 : 19996 < t.size
    · exact absurd (e1 h4) h3
    · omega
  have e2 := e2 h3
  have e3 := e3 h3
  have e4 := @e4 h3
  have es : pSlen s = Int.ofNat s.size := slenIs hF s
  refine brT (lenOkIs hF (by rw [show pSlen s = _ from es]; ((try simp only [Int.ofNat_eq_natCast] at *); omega))) ?_
  try cbv
  obtain ⟨bs, hbs⟩ : ∃ z, z = pBytes s := ⟨_, rfl⟩
  rw [← hbs]
  have hbs : bs = bytesL s.data.toList := by rw [hbs]; cases hF; rfl
  have hbl : bs.length = s.size := by rw [hbs, bytesL, List.length_map]; rfl
  have el : pLlen bs = Int.ofNat s.size := (llenIs hF _).trans (by rw [hbl]; rfl)
  have ev : pConv .i64 (Int.ofNat s.size) = Int.ofNat s.size := by cases hF; exact wrap_i64 (by ((try simp only [Int.ofNat_eq_natCast] at *); omega)) (by ((try simp only [Int.ofNat_eq_natCast] at *); omega))
  rw [el]
  try rw [ev]
  have lr0 := lr 0 (Int.ofNat s.size) (by ((try simp only [Int.ofNat_eq_natCast] at *); omega))
  have lr1 := lr 1 255 (by decide)
  have lw0 := lw 0 (Int.ofNat s.size) (by decide) (by ((try simp only [Int.ofNat_eq_natCast] at *); omega))
  have lw1 := lw 1 255 (by decide) (by decide)
  obtain ⟨v0, hv0⟩ : ∃ v, v = lv 0 (Int.ofNat s.size) := ⟨_, rfl⟩
  obtain ⟨v1, hv1⟩ : ∃ v, v = lv 1 255 := ⟨_, rfl⟩
  rw [← hv0] at lr0 lw0
  rw [← hv1] at lr1 lw1
  refine callI hC lw0 ?_
  cbv
  rw [el]
  obtain ⟨i, rfl⟩ : ∃ i : Nat, v0 = Int.ofNat i := ⟨v0.toNat, by ((try simp only [Int.ofNat_eq_natCast] at *); omega)⟩
  have hi : i < s.data.toList.length := by have : s.data.toList.length = s.size := rfl; ((try simp only [Int.ofNat_eq_natCast] at *); omega)
  refine brT (mkLe hF (by ((try simp only [Int.ofNat_eq_natCast] at *); omega))) (brT (mkLt hF (by ((try simp only [Int.ofNat_eq_natCast] at *); omega))) ?_)
  try cbv
  obtain ⟨b, hb⟩ : ∃ b, b = s.data.toList[i] := ⟨_, rfl⟩
  have hb2 : s.data.toList[i]? = some b := by rw [List.getElem?_eq_getElem hi, hb]
  obtain ⟨bn, hbn⟩ : ∃ n : Int, n = (b.toNat : Int) := ⟨_, rfl⟩
  have hget : LGet bs (Int.ofNat i) [.sc (.int .u8 bn)] := ⟨Int.natCast_nonneg i, by rw [show (Int.ofNat i).toNat = i from rfl, hbs, bytesL, List.getElem?_map, hb2, hbn]; rfl⟩
  refine Exists.intro [.sc (.int .u8 bn)] ?_
  cbv
  refine And.intro hget ?_
  try cbv
  refine callI hC lw1 ?_
  cbv
  have ew : pAdd .i64 1 v1 = 1 + v1 := addIs hF (by omega) (by omega)
  rw [ew]
  obtain ⟨y, hy1, hy2⟩ := turned_byte b v1 lr1.1 lr1.2
  have hy1 : pXor .u8 bn (pConv .u8 (1 + v1)) = (y.toNat : Int) := by
    rw [hF] at hy1
    rw [hbn]; exact hy1
  rw [hy1]
  obtain ⟨yn, hyn⟩ : ∃ n : Int, n = (y.toNat : Int) := ⟨_, rfl⟩
  rw [← hyn]
  rw [el]
  refine brT (mkLe hF (by ((try simp only [Int.ofNat_eq_natCast] at *); omega))) (brT (mkLt hF (by ((try simp only [Int.ofNat_eq_natCast] at *); omega))) ?_)
  try cbv
  refine Exists.intro [.sc (.int .u8 bn)] ?_
  cbv
  refine And.intro hget ?_
  try cbv
  have hset : pLset bs (Int.ofNat i) [.sc (.int .u8 yn)] = bytesL (tb s i y).data.toList := by
    have : pLset bs (Int.ofNat i) [.sc (.int .u8 yn)] = bs.set i [.sc (.int .u8 yn)] := by cases hF; rfl
    rw [this, hbs, htb', bytesL, bytesL, List.map_set, hyn]
  have cU1 := ciU s (by rw [maxLen_is]; omega)
  rw [e3.1, e3.2] at cU1
  refine callI hC cU1 ?_
  cbv
  refine brT (mkSeq hF rfl) ?_
  try cbv
  refine brT (mkEq hF rfl) ?_
  try cbv
  refine brT (mkEq hF rfl) ?_
  try cbv
  refine ⟨tb s i y, ⟨hset⟩, ?_⟩
  have cU2 := ciU (tb s i y) (by rw [htb', maxLen_is]; show (s.data.toList.set i y).length ≤ _; rw [List.length_set]; have : s.data.toList.length = s.size := rfl; omega)
  have e5 := e4 (i := i) (by have : s.data.toList.length = s.size := rfl; omega) (x := y) (by rw [getD_at hi, ← hb]; exact hy2)
  rw [e5] at cU2
  obtain ⟨s2, hs2⟩ : ∃ x, x = tb s i y := ⟨_, rfl⟩
  rw [← hs2] at cU2 ⊢
  obtain ⟨u2, hu2⟩ : ∃ x, x = ut s2 := ⟨_, rfl⟩
  rw [← hu2] at cU2
  cbv
  refine callI hC cU2 ?_
  cbv
  refine brT (mkEq hF rfl) ?_
  try cbv
  refine callQ2 hC (cD cm) (fun q u hu => ?_)
  cbv
  rw [et, show pSlen u = Int.ofNat u.size from slenIs hF u]
  have ea : pAdd .i64 (Int.ofNat t.size) (Int.ofNat u.size) = Int.ofNat (t.size + u.size) := addNIs hF (by omega)
  rw [ea]
  refine brkI (fun g => ?_) (fun g => ?_) <;> try cbv
  · exact hr.symm
  have g := ltF hF g
  have gs : t.size + u.size ≤ 20000 := by ((try simp only [Int.ofNat_eq_natCast] at *); omega)
  have um : u.size ≤ maxLen := by rw [maxLen_is]; omega
  refine callI hC (ciM q u um) ?_
  cbv
  refine callI hC (csM q u um) ?_
  cbv
  refine brT (mkEq hF rfl) ?_
  try cbv
  refine callI hC (ciC t tm) ?_
  cbv
  refine callI hC (ciM (co t) u um) ?_
  cbv
  refine brT (catOkIs hF (by omega)) ?_
  try cbv
  have ecat : pCat t u = t ++ u := catIs hF t u
  obtain ⟨tu, htu⟩ : ∃ x, x = pCat t u := ⟨_, rfl⟩
  have hp := pM gs
  rw [← ecat, ← htu] at hp
  have tum : tu.size ≤ maxLen := by rw [htu, ecat, ByteArray.size_append, maxLen_is]; omega
  rw [← htu]
  refine callI hC (ciC tu tum) ?_
  cbv
  refine brT (mkEq hF hp) ?_
  try cbv
  exact hr.symm
end Go.Proofs.Ytemfaiabbonpnaa
