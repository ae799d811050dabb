/- Functions of the program, each with what it returns, run by the evaluator; the conditions stand in the theorems. -/
import Derived.Test.YthaelohccopgjaaLTrI
import Derived.Test.YthaelohccopgjaaLTrB
namespace Go.Proofs.Ythaelohccopgjaa
open Go Go.Proofs.YthaelohccopgjaaW Go.Proofs
set_option linter.unusedVariables false
set_option linter.unusedSimpArgs false
set_option maxRecDepth 100000
set_option maxHeartbeats 8000000
/-! A key put into a right tree, and taken out of one. -/
def putT (t : Tr) (key val : ByteArray) : Tr :=
  if 20000 < key.size ∨ 20000 < val.size then ⟨[], [], []⟩
  else if rightT t = false then t
  else if (getT (deepT 13 t) t key).isSome = true then setN (deepT 13 t) t key val
  else if 12 ≤ deepT 13 t then t
  else if t.keys.length = 3 then putN (deepT 13 t + 1) (splitT ⟨[], [], [t]⟩ 0) key val
  else putN (deepT 13 t) t key val
def rootT (u : Tr) : Tr := if u.keys.length = 0 ∧ u.kids.length ≠ 0 then u.kid 0 else u
def delT (t : Tr) (key : ByteArray) : Tr :=
  if 20000 < key.size then ⟨[], [], []⟩
  else if rightT t = false then t
  else if (getT (deepT 13 t) t key).isSome = false then t
  else rootT (delN (deepT 13 t) t key)
theorem notF {b : Bool} (h : ¬ b = false) : b = true := by cases b <;> simp_all
def SzQ (l : List Pr) : Prop := ∀ q ∈ l, q.1.size ≤ 1048576 ∧ q.2.size ≤ 1048576
theorem SzP.q {l : List Pr} (h : SzP l) : SzQ l := fun q hq => ⟨by have := (h q hq).1; omega, by have := (h q hq).2; omega⟩
theorem has_iff {d lo : Nat} {t : Tr} {key : ByteArray} (h : Nd lo d t) (hs : Srt (flat d t)) : (getT d t key).isSome = true ↔ HasKey key (flat d t) := by
  rw [get_flat h hs]
  cases e : lookP key (flat d t) with
  | none => simp only [Option.isSome_none]; exact ⟨fun h => (by cases h), fun h => absurd h (lookP_none.1 e)⟩
  | some v =>
    simp only [Option.isSome_some, true_iff]
    by_cases hk : HasKey key (flat d t)
    · exact hk
    · rw [lookP_none.2 hk] at e; cases e
theorem set_szp {d lo : Nat} {t : Tr} {key val : ByteArray} (h : Nd lo d t) (hs : Srt (flat d t)) (hk : HasKey key (flat d t)) (hz : SzP (flat d t)) (h1 : key.size ≤ 20000) (h2 : val.size ≤ 20000) : SzP (flat d (setN d t key val)) := by
  rw [(set_flat h hs hk).2.2]
  intro q hq
  obtain ⟨q0, h3, rfl⟩ := List.mem_map.1 hq
  split
  · exact ⟨h1, h2⟩
  · exact hz q0 h3
theorem put_szp {p : Pr} {l : List Pr} (hz : SzP l) (h1 : p.1.size ≤ 20000) (h2 : p.2.size ≤ 20000) : SzP (insP p l) := fun q hq => by
  rcases mem_insP hq with rfl | hq
  · exact ⟨h1, h2⟩
  · exact hz q hq
theorem del_szp {key : ByteArray} {l : List Pr} (hz : SzP l) : SzP (delP key l) := fun q hq => hz q (List.mem_filter.1 hq).1
/-- The root is split. -/
theorem root_split {d : Nat} {t : Tr} (h : Nd 0 d t) (h3 : t.keys.length = 3) : Nd 0 (d + 1) (splitT ⟨[], [], [t]⟩ 0) ∧ (splitT ⟨[], [], [t]⟩ 0).keys.length = 1 ∧ flat (d + 1) (splitT ⟨[], [], [t]⟩ 0) = flat d t := by
  cases d with
  | zero => exact h.elim
  | succ d =>
    have ht : Nd 1 (d + 1) t := h.low (by omega)
    have a : At 0 d 0 ⟨[], [], [t]⟩ [] [] [] [] [] t [] := ⟨rfl, rfl, rfl, rfl, rfl, rfl, by simp, by simp, by simp, ht, by simp⟩
    obtain ⟨e, hf, a1, _⟩ := a.split' h3 (by simp)
    refine ⟨a1.nd, by rw [e]; rfl, ?_⟩
    rw [hf, a.fl]
    simp [wtl, weave, weft]
theorem Nd.bdM {M lo d : Nat} {t : Tr} (hM : 20000 ≤ M) (h : Nd lo d t) (hz : SzP (flat d t)) : Tr.Bd M t := nd_bd (by omega) h fun q hq => ⟨by have := (hz q hq).1; omega, by have := (hz q hq).2; omega⟩
theorem bd0M {M : Nat} : Tr.Bd M ⟨[], [], []⟩ := ⟨_, by simp, by simp, by simp, by simp, by simp, by simp⟩
theorem putT_bdM {M : Nat} (hM : 20000 ≤ M) (t : Tr) (key val : ByteArray) (hb : Tr.Bd M t) : Tr.Bd M (putT t key val) := by
  rw [putT]
  split
  · exact bd0M
  rename_i h1
  split
  · exact hb
  rename_i h2
  obtain ⟨d, hd, d1, d2, hN, hS, hZ⟩ := right_nd (by simpa using h2 : rightT t = true)
  rw [← hd]
  split
  · rename_i h3
    have hk := (has_iff hN hS).1 h3
    exact (set_flat hN hS hk).1.bdM hM (set_szp hN hS hk hZ (by omega) (by omega))
  rename_i h3
  split
  · exact hb
  have hk : NoKey key (flat d t) := fun q hq e => h3 ((has_iff hN hS).2 ⟨q, hq, e⟩)
  split
  · rename_i h5
    obtain ⟨r1, r2, r3⟩ := root_split hN h5
    obtain ⟨p1, p2⟩ := put_flat (key := key) (val := val) r1 (by omega) (by rw [r3]; exact hS) (by rw [r3]; exact hk)
    refine p1.bdM hM ?_
    rw [p2, r3]
    exact put_szp hZ (by dsimp only; omega) (by dsimp only; omega)
  · rename_i h5
    obtain ⟨p1, p2⟩ := put_flat (key := key) (val := val) hN (by have := hN.le3; omega) hS hk
    refine p1.bdM hM ?_
    rw [p2]
    exact put_szp hZ (by dsimp only; omega) (by dsimp only; omega)
theorem rootT_bdM {M : Nat} {u : Tr} (h : Tr.Bd M u) : Tr.Bd M (rootT u) := by
  rw [rootT]
  split
  · rename_i hh
    obtain ⟨_, _, _, _, _, _, h6⟩ := h
    refine h6 _ ?_
    have : 0 < u.kids.length := by omega
    rw [Tr.kid, List.getD_eq_getElem?_getD, List.getElem?_eq_getElem this]; exact List.getElem_mem this
  · exact h
theorem right_keys {t : Tr} (h : rightT t = true) (hk : t.keys.length = 0) : t.kids = [] := by
  simp only [rightT, Bool.and_eq_true, decide_eq_true_eq] at h
  obtain ⟨_, h⟩ := h
  cases e : deepT 13 t with
  | zero => rw [e, okT] at h; cases h
  | succ d =>
    rw [e, okT] at h
    simp only [Bool.and_eq_true, Tr.shape, Bool.or_eq_true, decide_eq_true_eq] at h
    rcases h.1.1.1.2 with h | h
    · exact List.eq_nil_of_length_eq_zero h
    · exact absurd hk h.2
theorem Nd.bd {lo d : Nat} {t : Tr} (h : Nd lo d t) (hz : SzP (flat d t)) : Tr.Bd 1048576 t := h.bdM (by omega) hz
theorem bd0 : Tr.Bd 1048576 ⟨[], [], []⟩ := bd0M
theorem putT_bd (t : Tr) (key val : ByteArray) (hb : Tr.Bd 1048576 t) : Tr.Bd 1048576 (putT t key val) := putT_bdM (by omega) t key val hb
theorem rootT_bd {u : Tr} (h : Tr.Bd 1048576 u) : Tr.Bd 1048576 (rootT u) := rootT_bdM h
theorem Tr.Bd.mono {M M' : Nat} (hm : M ≤ M') {t : Tr} (h : Tr.Bd M t) : Tr.Bd M' t := by
  induction h with
  | mk t h1 h2 h3 h4 h5 h6 ih => exact ⟨t, by omega, fun u hu => by have := h2 u hu; omega, by omega, fun u hu => by have := h4 u hu; omega, by omega, ih⟩
theorem key_len {d : Nat} {t : Tr} {key : ByteArray} (hr : rightT t = true) (h : Nd 0 d t) (hk : HasKey key (flat d t)) : 1 ≤ t.keys.length := by
  rcases Nat.lt_or_ge 0 t.keys.length with h0 | h0
  · exact h0
  · exfalso
    have hk0 : t.keys = [] := List.eq_nil_of_length_eq_zero (by omega)
    have hc := right_keys hr (by omega)
    cases d with
    | zero => exact h.elim
    | succ d =>
      obtain ⟨q, hq, _⟩ := hk
      rw [flat, hc] at hq
      simp [weave, Tr.prs, hk0] at hq
theorem delT_bdM {M : Nat} (hM : 20000 ≤ M) (t : Tr) (key : ByteArray) (hb : Tr.Bd M t) : Tr.Bd M (delT t key) := by
  rw [delT]
  split
  · exact bd0M
  split
  · exact hb
  rename_i h2
  have hr : rightT t = true := by simpa using h2
  obtain ⟨d, hd, d1, d2, hN, hS, hZ⟩ := right_nd hr
  rw [← hd]
  split
  · exact hb
  rename_i h3
  have hk := (has_iff hN hS).1 (notF h3)
  obtain ⟨n1, n2⟩ := del_flat hN (key_len hr hN hk) hS hk
  exact rootT_bdM (n1.bdM hM (by rw [n2]; exact del_szp hZ))
theorem delT_bd (t : Tr) (key : ByteArray) (hb : Tr.Bd 1048576 t) : Tr.Bd 1048576 (delT t key) := delT_bdM (by omega) t key hb
/-! ## The walk -/
theorem sPut_A (t : Tr) (key val : ByteArray) (h : 20000 < key.size ∨ 20000 < val.size) : CallOK Try.prog 30 [.agg [.y (.sl 1 (t.keys.map rowS)), .y (.sl 1 (t.vals.map rowS)), .y (.sl 3 (t.kids.map Tr.row))], aS key, aS val] ⟨.agg [.own 1 ((⟨[], [], []⟩ : Tr).keys.map rowS), .own 1 ((⟨[], [], []⟩ : Tr).vals.map rowS), .own 3 ((⟨[], [], []⟩ : Tr).kids.map Tr.row)], []⟩ := by
  obtain ⟨M, hM⟩ := mapEx
  try simp only [hM]
  refine go Try.func30 rfl rfl rfl rfl fun pAdd pSub pMul pQuo pRem pAnd pOr pXor pAndNot pShl pShr pNeg pCompl pConv pLt pLe pEq pSlt pSle pSeq pCat pCatOk pSlen pSsub pSat pIadd pIsub pBnot pBeq pImin pImax pLlen pLsub pLapp pLset pLcopy pLenOk pBytes pRep hF Ca hC r hr => ?_
  cbv
  have el : pSlen key = Int.ofNat key.size := slenIs hF key
  have el2 : pSlen val = Int.ofNat val.size := slenIs hF val
  rw [el]
  refine brkI (fun h1 => ?_) (fun h1 => ?_) <;> try cbv
  · rw [hr]; simp only [← hM, List.map_nil]
  · have h1 := ltF hF h1
    rw [el2]
    refine brT (mkLt hF (by ((try simp only [Int.ofNat_eq_natCast] at *); omega))) ?_
    try cbv
    rw [hr]; simp only [← hM, List.map_nil]
theorem sPut_B (t : Tr) (key val : ByteArray) (hb : Tr.Bd 1048576 t) (h1 : ¬ 20000 < key.size) (h2 : ¬ 20000 < val.size) (hr0 : rightT t = false) : CallOK Try.prog 30 [.agg [.y (.sl 1 (t.keys.map rowS)), .y (.sl 1 (t.vals.map rowS)), .y (.sl 3 (t.kids.map Tr.row))], aS key, aS val] ⟨.agg [.own 1 (t.keys.map rowS), .own 1 (t.vals.map rowS), .own 3 (t.kids.map Tr.row)], []⟩ := by
  have c0 := sTreeRight_ok t hb.up
  rw [hr0] at c0
  have c1 := sCopy_own t hb
  obtain ⟨rr, hrr⟩ : ∃ r : Res, r = ⟨.agg [.own 1 (t.keys.map rowS), .own 1 (t.vals.map rowS), .own 3 (t.kids.map Tr.row)], []⟩ := ⟨_, rfl⟩
  rw [← hrr]
  obtain ⟨M, hM⟩ := mapEx
  try simp only [hM]
  refine go Try.func30 rfl rfl rfl rfl fun pAdd pSub pMul pQuo pRem pAnd pOr pXor pAndNot pShl pShr pNeg pCompl pConv pLt pLe pEq pSlt pSle pSeq pCat pCatOk pSlen pSsub pSat pIadd pIsub pBnot pBeq pImin pImax pLlen pLsub pLapp pLset pLcopy pLenOk pBytes pRep hF Ca hC r hr => ?_
  cbv
  have el : pSlen key = Int.ofNat key.size := slenIs hF key
  have el2 : pSlen val = Int.ofNat val.size := slenIs hF val
  rw [el]
  refine brF (mkNlt hF (by ((try simp only [Int.ofNat_eq_natCast] at *); omega))) ?_
  try cbv
  rw [el2]
  refine brF (mkNlt hF (by ((try simp only [Int.ofNat_eq_natCast] at *); omega))) ?_
  try cbv
  refine callI hC (by have hh := c0; (try simp only [hM] at hh); exact hh) ?_
  cbv
  refine callI hC (by have hh := c1; (try simp only [hM] at hh); exact hh) ?_
  cbv
  rw [hr, hrr]
  simp only [hM]
theorem sPut_C (t : Tr) (key val : ByteArray) (hb : Tr.Bd 1048576 t) (h1 : ¬ 20000 < key.size) (h2 : ¬ 20000 < val.size) (hr0 : rightT t = true) (h3 : (getT (deepT 13 t) t key).isSome = true) : CallOK Try.prog 30 [.agg [.y (.sl 1 (t.keys.map rowS)), .y (.sl 1 (t.vals.map rowS)), .y (.sl 3 (t.kids.map Tr.row))], aS key, aS val] ⟨.agg [.own 1 ((setN (deepT 13 t) t key val).keys.map rowS), .own 1 ((setN (deepT 13 t) t key val).vals.map rowS), .own 3 ((setN (deepT 13 t) t key val).kids.map Tr.row)], []⟩ := by
  have c0 := sTreeRight_ok t hb.up
  rw [hr0] at c0
  have c2 := sGet_ok (deepT 13 t) t key (right_okAt hr0)
  obtain ⟨d, hd, d1, d2, hN, hS, hZ⟩ := right_nd hr0
  obtain ⟨dd, hdd⟩ : ∃ x, x = deepT 13 t := ⟨_, rfl⟩
  rw [← hdd] at hd
  subst hd
  rw [← hdd] at c2 h3
  rw [h3] at c2
  obtain ⟨g, hg⟩ : ∃ g, g = outS (getT d t key) := ⟨_, rfl⟩
  rw [← hg] at c2
  rw [← hdd]
  have hk := (has_iff hN hS).1 h3
  have c3 := sSet_ok d 0 t key val hN hS hk
  have hbu : Tr.Bd 1048576 (setN d t key val) := (set_flat hN hS hk).1.bd (set_szp hN hS hk hZ (by omega) (by omega))
  have c4 := sCopy_own _ hbu
  obtain ⟨u, hu⟩ : ∃ u, u = setN d t key val := ⟨_, rfl⟩
  rw [← hu] at c3 c4 ⊢
  rw [Tr.row_eq] at c3
  obtain ⟨rr, hrr⟩ : ∃ r : Res, r = ⟨.agg [.own 1 (u.keys.map rowS), .own 1 (u.vals.map rowS), .own 3 (u.kids.map Tr.row)], []⟩ := ⟨_, rfl⟩
  rw [← hrr]
  obtain ⟨M, hM⟩ := mapEx
  try simp only [hM]
  refine go Try.func30 rfl rfl rfl rfl fun pAdd pSub pMul pQuo pRem pAnd pOr pXor pAndNot pShl pShr pNeg pCompl pConv pLt pLe pEq pSlt pSle pSeq pCat pCatOk pSlen pSsub pSat pIadd pIsub pBnot pBeq pImin pImax pLlen pLsub pLapp pLset pLcopy pLenOk pBytes pRep hF Ca hC r hr => ?_
  cbv
  have el : pSlen key = Int.ofNat key.size := slenIs hF key
  have el2 : pSlen val = Int.ofNat val.size := slenIs hF val
  rw [el]
  refine brF (mkNlt hF (by ((try simp only [Int.ofNat_eq_natCast] at *); omega))) ?_
  try cbv
  rw [el2]
  refine brF (mkNlt hF (by ((try simp only [Int.ofNat_eq_natCast] at *); omega))) ?_
  try cbv
  refine callI hC (by have hh := c0; (try simp only [hM] at hh); exact hh) ?_
  cbv
  refine callI hC (by have hh := c2; (try simp only [hM] at hh); exact hh) ?_
  cbv
  refine callI hC (by have hh := c3; (try simp only [hM, List.map_cons, List.map_nil] at hh); exact hh) ?_
  cbv
  refine callI hC (by have hh := c4; (try simp only [hM, List.map_cons, List.map_nil] at hh); exact hh) ?_
  cbv
  rw [hr, hrr]
  simp only [hM]
theorem sPut_D (t : Tr) (key val : ByteArray) (hb : Tr.Bd 1048576 t) (h1 : ¬ 20000 < key.size) (h2 : ¬ 20000 < val.size) (hr0 : rightT t = true) (h3 : (getT (deepT 13 t) t key).isSome = false) (h4 : 12 ≤ deepT 13 t) : CallOK Try.prog 30 [.agg [.y (.sl 1 (t.keys.map rowS)), .y (.sl 1 (t.vals.map rowS)), .y (.sl 3 (t.kids.map Tr.row))], aS key, aS val] ⟨.agg [.own 1 (t.keys.map rowS), .own 1 (t.vals.map rowS), .own 3 (t.kids.map Tr.row)], []⟩ := by
  have c0 := sTreeRight_ok t hb.up
  rw [hr0] at c0
  have c2 := sGet_ok (deepT 13 t) t key (right_okAt hr0)
  obtain ⟨d, hd, d1, d2, hN, hS, hZ⟩ := right_nd hr0
  obtain ⟨dd, hdd⟩ : ∃ x, x = deepT 13 t := ⟨_, rfl⟩
  rw [← hdd] at hd
  subst hd
  rw [← hdd] at c2 h3 h4
  rw [h3] at c2
  obtain ⟨g, hg⟩ : ∃ g, g = outS (getT d t key) := ⟨_, rfl⟩
  rw [← hg] at c2
  have c3 := deep_ok t
  rw [← hdd] at c3
  have c4 := sCopy_own _ hb
  obtain ⟨rr, hrr⟩ : ∃ r : Res, r = ⟨.agg [.own 1 (t.keys.map rowS), .own 1 (t.vals.map rowS), .own 3 (t.kids.map Tr.row)], []⟩ := ⟨_, rfl⟩
  rw [← hrr]
  obtain ⟨M, hM⟩ := mapEx
  try simp only [hM]
  refine go Try.func30 rfl rfl rfl rfl fun pAdd pSub pMul pQuo pRem pAnd pOr pXor pAndNot pShl pShr pNeg pCompl pConv pLt pLe pEq pSlt pSle pSeq pCat pCatOk pSlen pSsub pSat pIadd pIsub pBnot pBeq pImin pImax pLlen pLsub pLapp pLset pLcopy pLenOk pBytes pRep hF Ca hC r hr => ?_
  cbv
  have el : pSlen key = Int.ofNat key.size := slenIs hF key
  have el2 : pSlen val = Int.ofNat val.size := slenIs hF val
  rw [el]
  refine brF (mkNlt hF (by ((try simp only [Int.ofNat_eq_natCast] at *); omega))) ?_
  try cbv
  rw [el2]
  refine brF (mkNlt hF (by ((try simp only [Int.ofNat_eq_natCast] at *); omega))) ?_
  try cbv
  refine callI hC (by have hh := c0; (try simp only [hM] at hh); exact hh) ?_
  cbv
  refine callI hC (by have hh := c2; (try simp only [hM] at hh); exact hh) ?_
  cbv
  refine callI hC (by have hh := c3; (try simp only [hM, List.map_cons, List.map_nil] at hh); exact hh) ?_
  cbv
  refine brT (mkLe hF (by ((try simp only [Int.ofNat_eq_natCast] at *); omega))) ?_
  try cbv
  refine callI hC (by have hh := c4; (try simp only [hM, List.map_cons, List.map_nil] at hh); exact hh) ?_
  cbv
  rw [hr, hrr]
  simp only [hM]
theorem sPut_F (t : Tr) (key val : ByteArray) (hb : Tr.Bd 1048576 t) (h1 : ¬ 20000 < key.size) (h2 : ¬ 20000 < val.size) (hr0 : rightT t = true) (h3 : (getT (deepT 13 t) t key).isSome = false) (h4 : ¬ 12 ≤ deepT 13 t) (h5 : t.keys.length ≠ 3) : CallOK Try.prog 30 [.agg [.y (.sl 1 (t.keys.map rowS)), .y (.sl 1 (t.vals.map rowS)), .y (.sl 3 (t.kids.map Tr.row))], aS key, aS val] ⟨.agg [.own 1 ((putN (deepT 13 t) t key val).keys.map rowS), .own 1 ((putN (deepT 13 t) t key val).vals.map rowS), .own 3 ((putN (deepT 13 t) t key val).kids.map Tr.row)], []⟩ := by
  have c0 := sTreeRight_ok t hb.up
  rw [hr0] at c0
  have c2 := sGet_ok (deepT 13 t) t key (right_okAt hr0)
  obtain ⟨d, hd, d1, d2, hN, hS, hZ⟩ := right_nd hr0
  obtain ⟨dd, hdd⟩ : ∃ x, x = deepT 13 t := ⟨_, rfl⟩
  rw [← hdd] at hd
  subst hd
  rw [← hdd] at c2 h3 h4
  rw [h3] at c2
  obtain ⟨g, hg⟩ : ∃ g, g = outS (getT d t key) := ⟨_, rfl⟩
  rw [← hg] at c2
  rw [← hdd]
  have hk : NoKey key (flat d t) := fun q hq e => by
    have := (has_iff hN hS).2 ⟨q, hq, e⟩
    rw [h3] at this; cases this
  have hl := hN.le3
  have c3 := deep_ok t
  rw [← hdd] at c3
  obtain ⟨p1, p2⟩ := put_flat (key := key) (val := val) hN (by omega) hS hk
  have c5 := sPut_ok d 0 t key val hN (by omega)
  have c4 := sCopy_own _ (p1.bd (by rw [p2]; exact put_szp hZ (by dsimp only; omega) (by dsimp only; omega)))
  obtain ⟨u, hu⟩ : ∃ u, u = putN d t key val := ⟨_, rfl⟩
  rw [← hu] at c4 c5 ⊢
  rw [Tr.row_eq] at c5
  obtain ⟨rr, hrr⟩ : ∃ r : Res, r = ⟨.agg [.own 1 (u.keys.map rowS), .own 1 (u.vals.map rowS), .own 3 (u.kids.map Tr.row)], []⟩ := ⟨_, rfl⟩
  rw [← hrr]
  obtain ⟨M, hM⟩ := mapEx
  try simp only [hM]
  refine go Try.func30 rfl rfl rfl rfl fun pAdd pSub pMul pQuo pRem pAnd pOr pXor pAndNot pShl pShr pNeg pCompl pConv pLt pLe pEq pSlt pSle pSeq pCat pCatOk pSlen pSsub pSat pIadd pIsub pBnot pBeq pImin pImax pLlen pLsub pLapp pLset pLcopy pLenOk pBytes pRep hF Ca hC r hr => ?_
  cbv
  have el : pSlen key = Int.ofNat key.size := slenIs hF key
  have el2 : pSlen val = Int.ofNat val.size := slenIs hF val
  rw [el]
  refine brF (mkNlt hF (by ((try simp only [Int.ofNat_eq_natCast] at *); omega))) ?_
  try cbv
  rw [el2]
  refine brF (mkNlt hF (by ((try simp only [Int.ofNat_eq_natCast] at *); omega))) ?_
  try cbv
  refine callI hC (by have hh := c0; (try simp only [hM] at hh); exact hh) ?_
  cbv
  refine callI hC (by have hh := c2; (try simp only [hM] at hh); exact hh) ?_
  cbv
  refine callI hC (by have hh := c3; (try simp only [hM, List.map_cons, List.map_nil] at hh); exact hh) ?_
  cbv
  refine brF (mkNle hF (by ((try simp only [Int.ofNat_eq_natCast] at *); omega))) ?_
  try cbv
  have lk : pLlen (M rowS t.keys) = Int.ofNat t.keys.length := (llenIs hF _).trans (by rw [← hM, List.length_map]; rfl)
  rw [lk]
  refine brF (mkNe hF (by ((try simp only [Int.ofNat_eq_natCast] at *); omega))) ?_
  try cbv
  refine callI hC (by have hh := c5; (try simp only [hM, List.map_cons, List.map_nil] at hh); exact hh) ?_
  cbv
  refine callI hC (by have hh := c4; (try simp only [hM, List.map_cons, List.map_nil] at hh); exact hh) ?_
  cbv
  rw [hr, hrr]
  simp only [hM]
theorem sPut_E (t : Tr) (key val : ByteArray) (hb : Tr.Bd 1048576 t) (h1 : ¬ 20000 < key.size) (h2 : ¬ 20000 < val.size) (hr0 : rightT t = true) (h3 : (getT (deepT 13 t) t key).isSome = false) (h4 : ¬ 12 ≤ deepT 13 t) (h5 : t.keys.length = 3) : CallOK Try.prog 30 [.agg [.y (.sl 1 (t.keys.map rowS)), .y (.sl 1 (t.vals.map rowS)), .y (.sl 3 (t.kids.map Tr.row))], aS key, aS val] ⟨.agg [.own 1 ((putN (deepT 13 t + 1) (splitT ⟨[], [], [t]⟩ 0) key val).keys.map rowS), .own 1 ((putN (deepT 13 t + 1) (splitT ⟨[], [], [t]⟩ 0) key val).vals.map rowS), .own 3 ((putN (deepT 13 t + 1) (splitT ⟨[], [], [t]⟩ 0) key val).kids.map Tr.row)], []⟩ := by
  have c0 := sTreeRight_ok t hb.up
  rw [hr0] at c0
  have c2 := sGet_ok (deepT 13 t) t key (right_okAt hr0)
  obtain ⟨d, hd, d1, d2, hN, hS, hZ⟩ := right_nd hr0
  obtain ⟨dd, hdd⟩ : ∃ x, x = deepT 13 t := ⟨_, rfl⟩
  rw [← hdd] at hd
  subst hd
  rw [← hdd] at c2 h3 h4
  rw [h3] at c2
  obtain ⟨g, hg⟩ : ∃ g, g = outS (getT d t key) := ⟨_, rfl⟩
  rw [← hg] at c2
  rw [← hdd]
  have hk : NoKey key (flat d t) := fun q hq e => by
    have := (has_iff hN hS).2 ⟨q, hq, e⟩
    rw [h3] at this; cases this
  have hl := hN.le3
  have c3 := deep_ok t
  rw [← hdd] at c3
  obtain ⟨r1, r2, r3⟩ := root_split hN h5
  obtain ⟨p1, p2⟩ := put_flat (key := key) (val := val) r1 (by omega) (by rw [r3]; exact hS) (by rw [r3]; exact hk)
  have e0 : (⟨[], [], [t]⟩ : Tr).kid 0 = t := rfl
  have hv : t.vals.length = t.keys.length := by
    cases d with
    | zero => exact hN.elim
    | succ d => exact hN.lens'.2.2.1
  have hkk : t.kids = [] ∨ t.kids.length = 4 := by
    cases d with
    | zero => exact hN.elim
    | succ d => exact hN.kidsE.imp id (by omega)
  have c6 := sSplit_ok ⟨[], [], [t]⟩ 0 (by simp) (by simp) rfl (by simp) (by simp) (by rw [e0]; exact h5) (by rw [e0]; omega) (by rw [e0]; exact hkk)
  have c5 := sPut_ok (d + 1) 0 _ key val r1 (by omega)
  have c4 := sCopy_own _ (p1.bd (by rw [p2, r3]; exact put_szp hZ (by dsimp only; omega) (by dsimp only; omega)))
  obtain ⟨s, hs⟩ : ∃ u, u = splitT ⟨[], [], [t]⟩ 0 := ⟨_, rfl⟩
  rw [← hs] at c4 c5 c6 ⊢
  obtain ⟨u, hu⟩ : ∃ u, u = putN (d + 1) s key val := ⟨_, rfl⟩
  rw [← hu] at c4 c5 ⊢
  rw [Tr.row_eq] at c5 c6
  simp only [List.map_nil, List.map_cons, Tr.row_eq t] at c6
  obtain ⟨rr, hrr⟩ : ∃ r : Res, r = ⟨.agg [.own 1 (u.keys.map rowS), .own 1 (u.vals.map rowS), .own 3 (u.kids.map Tr.row)], []⟩ := ⟨_, rfl⟩
  rw [← hrr]
  obtain ⟨M, hM⟩ := mapEx
  try simp only [hM]
  refine go Try.func30 rfl rfl rfl rfl fun pAdd pSub pMul pQuo pRem pAnd pOr pXor pAndNot pShl pShr pNeg pCompl pConv pLt pLe pEq pSlt pSle pSeq pCat pCatOk pSlen pSsub pSat pIadd pIsub pBnot pBeq pImin pImax pLlen pLsub pLapp pLset pLcopy pLenOk pBytes pRep hF Ca hC r hr => ?_
  cbv
  have el : pSlen key = Int.ofNat key.size := slenIs hF key
  have el2 : pSlen val = Int.ofNat val.size := slenIs hF val
  rw [el]
  refine brF (mkNlt hF (by ((try simp only [Int.ofNat_eq_natCast] at *); omega))) ?_
  try cbv
  rw [el2]
  refine brF (mkNlt hF (by ((try simp only [Int.ofNat_eq_natCast] at *); omega))) ?_
  try cbv
  refine callI hC (by have hh := c0; (try simp only [hM] at hh); exact hh) ?_
  cbv
  refine callI hC (by have hh := c2; (try simp only [hM] at hh); exact hh) ?_
  cbv
  refine callI hC (by have hh := c3; (try simp only [hM, List.map_cons, List.map_nil] at hh); exact hh) ?_
  cbv
  refine brF (mkNle hF (by ((try simp only [Int.ofNat_eq_natCast] at *); omega))) ?_
  try cbv
  have lk : pLlen (M rowS t.keys) = Int.ofNat t.keys.length := (llenIs hF _).trans (by rw [← hM, List.length_map]; rfl)
  rw [lk]
  refine brT (mkEq hF (by ((try simp only [Int.ofNat_eq_natCast] at *); omega))) ?_
  try cbv
  refine callI hC (by have hh := c6; (try simp only [hM, List.map_cons, List.map_nil] at hh); exact hh) ?_
  cbv
  refine callI hC (by have hh := c5; (try simp only [hM, List.map_cons, List.map_nil] at hh); exact hh) ?_
  cbv
  refine callI hC (by have hh := c4; (try simp only [hM, List.map_cons, List.map_nil] at hh); exact hh) ?_
  cbv
  rw [hr, hrr]
  simp only [hM]
theorem sTreePut_ok (t : Tr) (key val : ByteArray) (hb : Tr.Bd 1048576 t) : CallOK Try.prog 30 [.agg [.y (.sl 1 (t.keys.map rowS)), .y (.sl 1 (t.vals.map rowS)), .y (.sl 3 (t.kids.map Tr.row))], aS key, aS val] ⟨.agg [.own 1 ((putT t key val).keys.map rowS), .own 1 ((putT t key val).vals.map rowS), .own 3 ((putT t key val).kids.map Tr.row)], []⟩ := by
  by_cases h : 20000 < key.size ∨ 20000 < val.size
  · rw [putT, if_pos h]; exact sPut_A t key val h
  have h1 : ¬ 20000 < key.size := fun e => h (.inl e)
  have h2 : ¬ 20000 < val.size := fun e => h (.inr e)
  rw [putT, if_neg h]
  by_cases hr0 : rightT t = false
  · rw [if_pos hr0]; exact sPut_B t key val hb h1 h2 hr0
  rw [if_neg hr0]
  have hr1 := notF hr0
  by_cases h3 : (getT (deepT 13 t) t key).isSome = true
  · rw [if_pos h3]; exact sPut_C t key val hb h1 h2 hr1 h3
  rw [if_neg h3]
  have h3 := Bool.eq_false_iff.2 h3
  by_cases h4 : 12 ≤ deepT 13 t
  · rw [if_pos h4]; exact sPut_D t key val hb h1 h2 hr1 h3 h4
  rw [if_neg h4]
  by_cases h5 : t.keys.length = 3
  · rw [if_pos h5]; exact sPut_E t key val hb h1 h2 hr1 h3 h4 h5
  · rw [if_neg h5]; exact sPut_F t key val hb h1 h2 hr1 h3 h4 h5
end Go.Proofs.Ythaelohccopgjaa
