/- Functions of the program, each with what it returns, run by the evaluator; the conditions stand in the theorems. -/
import Derived.Test.YtocjbababdlilaaLTy
import Derived.Test.YtocjbababdlilaaLNum
namespace Go.Proofs.Ytocjbababdlilaa
open Go Go.Proofs.YtocjbababdlilaaW Go.Proofs
set_option linter.unusedVariables false
set_option linter.unusedSimpArgs false
set_option maxRecDepth 100000
set_option maxHeartbeats 8000000
/-- Digits ahead of a text. -/
def mtGo (n : Nat) (acc : ByteArray) : ByteArray := if n = 0 then acc else mtGo (n / 10) (⟨⟨[UInt8.ofNat (48 + n % 10)]⟩⟩ ++ acc)
termination_by n
decreasing_by omega
def mt (n : Nat) : ByteArray := if n = 0 then ⟨⟨[109, 48]⟩⟩ else ⟨⟨[109]⟩⟩ ++ mtGo n ⟨⟨[]⟩⟩
theorem mtGo_zero (acc : ByteArray) : mtGo 0 acc = acc := by rw [mtGo, if_pos rfl]
theorem mtGo_pos {n : Nat} (h : n ≠ 0) (acc : ByteArray) : mtGo n acc = mtGo (n / 10) (⟨⟨[UInt8.ofNat (48 + n % 10)]⟩⟩ ++ acc) := by rw [mtGo, if_neg h]
theorem markText_ok (n : Nat) (hn : n ≤ 4611686018427387904) : CallOK Try.prog 112 [aN (Int.ofNat n)] (St (mt n)) := by
  obtain ⟨q, hq⟩ : ∃ q, q = mt n := ⟨_, rfl⟩
  rw [← hq]
  obtain ⟨M, hM⟩ := mapEx
  try simp only [hM]
  refine go Try.func112 rfl rfl rfl rfl fun pAdd pSub pMul pQuo pRem pAnd pOr pXor pAndNot pShl pShr pNeg pCompl pConv pLt pLe pEq pSlt pSle pSeq pCat pCatOk pSlen pSsub pSat pIadd pIsub pBnot pBeq pImin pImax pLlen pLsub pLapp pLset pLcopy pLenOk pBytes pRep hF Ca hC r hr => ?_
  cbv
  refine brkI (fun h => ?_) (fun h => ?_) <;> try cbv
  · have h := leT hF h
    have h : n = 0 := by ((try simp only [Int.ofNat_eq_natCast] at *); omega)
    exact retS hr (hq.trans (if_pos h))
  · have h := leF hF h
    have h : n ≠ 0 := by ((try simp only [Int.ofNat_eq_natCast] at *); omega)
    obtain ⟨q2, hq2⟩ : ∃ q2, q2 = mtGo n ⟨⟨[]⟩⟩ := ⟨_, rfl⟩
    have hq3 : q = ⟨⟨[109]⟩⟩ ++ q2 := hq.trans ((if_neg h).trans (by rw [hq2]))
    refine loop_u (α := Nat × ByteArray) (fun a st => (st.n 0 (Int.ofNat a.1)).str 3 a.2) (fun a => q2 = mtGo a.1 a.2 ∧ a.1 + a.2.size ≤ 4611686018427387904) (fun a => a.1) (n, ⟨⟨[]⟩⟩) rfl ⟨hq2, hn⟩ (fun K' hK I a hi ih => ?_)
    obtain ⟨m, acc⟩ := a
    obtain ⟨hm, hsz⟩ := hi
    dsimp only at hm hsz
    cbv
    refine brkI (fun h => ?_) (fun h => ?_) <;> try cbv
    · have h := ltT hF h
      have h : m ≠ 0 := by ((try simp only [Int.ofNat_eq_natCast] at *); omega)
      refine brF (by first | rfl | exact mkNe hF (by decide)) ?_
      refine ⟨⟨⟨[UInt8.ofNat (48 + m % 10)]⟩⟩, ⟨?_⟩, ?_⟩
      · have e0 : pRem .i64 (Int.ofNat m) 10 = Int.ofNat (m % 10) := by
          have : prims.rem .i64 (Int.ofNat m) 10 = Int.ofNat (m % 10) := by
            rfl
          rw [hF] at this; exact this
        have e1 : pAdd .i64 48 (Int.ofNat (m % 10)) = Int.ofNat (48 + m % 10) := (addIs hF (by ((try simp only [Int.ofNat_eq_natCast] at *); omega)) (by ((try simp only [Int.ofNat_eq_natCast] at *); omega))).trans (by ((try simp only [Int.ofNat_eq_natCast] at *); omega))
        have e2 : pConv .u8 (Int.ofNat (48 + m % 10)) = Int.ofNat (48 + m % 10) := by
          have : prims.conv .u8 (Int.ofNat (48 + m % 10)) = Int.ofNat (48 + m % 10) := (conv_u8 _).trans (by ((try simp only [Int.ofNat_eq_natCast] at *); omega))
          rw [hF] at this; exact this
        rw [e0, e1, e2]
        have := byteY (48 + m % 10) (by omega)
        show [[Y.sc (.int .u8 ((48 + m % 10 : Nat) : Int))]] = [[Y.sc (.int .u8 ((UInt8.ofNat (48 + m % 10)).toNat : Int))]]
        rw [this]
      · obtain ⟨c, hc⟩ : ∃ c : ByteArray, c = ⟨⟨[UInt8.ofNat (48 + m % 10)]⟩⟩ := ⟨_, rfl⟩
        have hcs : c.size = 1 := by rw [hc]; rfl
        rw [← hc]
        cbv
        refine brT (catOkIs hF (by omega)) ?_
        refine brF (by first | rfl | exact mkNe hF (by decide)) ?_
        have e3 : pQuo .i64 (Int.ofNat m) 10 = Int.ofNat (m / 10) := by
          have : prims.quo .i64 (Int.ofNat m) 10 = Int.ofNat (m / 10) := by
            have e : Int.tdiv (Int.ofNat m) 10 = Int.ofNat (m / 10) := rfl
            show IntKind.i64.wrap (Int.tdiv (Int.ofNat m) 10) = _
            rw [e]
            exact wrap_i64 (by ((try simp only [Int.ofNat_eq_natCast] at *); omega)) (by ((try simp only [Int.ofNat_eq_natCast] at *); omega))
          rw [hF] at this; exact this
        conv => arg 1; cbv
        rw [e3]
        have hcat : pCat c acc = c ++ acc := catIs hF c acc
        rw [hcat]
        refine ih (m / 10, c ++ acc) _ ⟨?_, ?_⟩ (by dsimp only; omega) rfl
        · rw [hm, mtGo_pos h, hc]
        · dsimp only
          rw [ByteArray.size_append, hcs]; omega
    · have h := ltF hF h
      have h : m = 0 := by ((try simp only [Int.ofNat_eq_natCast] at *); omega)
      subst h
      rw [mtGo_zero] at hm
      subst hm
      refine hK _ _ ?_
      cbv
      refine brT (catOkIs hF (by
        have : ({ data := { toList := [109] } } : ByteArray).size = 1 := rfl
        omega)) ?_
      refine retS hr (hq3.trans ?_)
      exact (catIs hF _ _).symm
def mb (n : Nat) : Bool := decide (n % 3 = 0)
theorem lset_lset {F : Prims} (hF : prims = F) (l : List (List Y)) (i : Int) (x y : List Y) : F.lset (F.lset l i x) i y = F.lset l i y := by subst hF; exact List.set_set ..
theorem lset_get {F : Prims} (hF : prims = F) {l : List (List Y)} {i : Nat} (h : i < l.length) (x : List Y) : (F.lset l (Int.ofNat i) x)[i]? = some x := by
  subst hF
  show (l.set i x)[i]? = _
  rw [List.getElem?_set_self h]
theorem lset_length {F : Prims} (hF : prims = F) (l : List (List Y)) (i : Int) (x : List Y) : (F.lset l i x).length = l.length := by subst hF; exact List.length_set ..
/-- Of a list, the first ones marked. -/
def marked {α : Type} (f : Nat → α) (l : List α) (i : Nat) : List α := (List.range i).map f ++ l.drop i
theorem marked_end {α : Type} (f : Nat → α) (l : List α) : marked f l l.length = (List.range l.length).map f := by rw [marked, List.drop_length, List.append_nil]
theorem marked_len {α : Type} (f : Nat → α) (l : List α) {i : Nat} (h : i ≤ l.length) : (marked f l i).length = l.length := by rw [marked, List.length_append, List.length_map, List.length_range, List.length_drop]; omega
theorem marked_set {α : Type} (f : Nat → α) (l : List α) {i : Nat} (h : i < l.length) : (marked f l i).set i (f i) = marked f l (i + 1) := by
  unfold marked
  rw [List.set_append_right _ _ (by simp), List.length_map, List.length_range, Nat.sub_self, List.drop_eq_getElem_cons h, List.set_cons_zero, List.range_succ, List.map_append, List.append_assoc]; rfl
def elInt64S (k : Nat) : Nat → Int := fun i => Int.ofNat (k + 1 * i + 0)
def mkInt64S (k n : Nat) : List Int := (List.range n).map (elInt64S k)
theorem markInt64S_ok (l : List Int) (k : Nat) (hl : l.length ≤ 4294967296) (hk : k ≤ 1152921504606846976) : CallOK Try.prog 139 [.ir false [.own 1 (l.map rowI)], aN (Int.ofNat k)] ⟨.c (.y (.sc (.int .i64 (Int.ofNat (k + 1 * l.length))))), [[.own 1 ((mkInt64S k l.length).map rowI)]]⟩ := by
  obtain ⟨q, hq⟩ : ∃ q, q = (mkInt64S k l.length).map rowI := ⟨_, rfl⟩
  obtain ⟨n, hn⟩ : ∃ n, n = k + 1 * l.length := ⟨_, rfl⟩
  obtain ⟨xs, hx⟩ : ∃ xs, xs = l.map rowI := ⟨_, rfl⟩
  rw [← hq, ← hn, ← hx]
  obtain ⟨M, hM⟩ := mapEx
  try simp only [hM]
  refine go Try.func139 rfl rfl rfl rfl fun pAdd pSub pMul pQuo pRem pAnd pOr pXor pAndNot pShl pShr pNeg pCompl pConv pLt pLe pEq pSlt pSle pSeq pCat pCatOk pSlen pSsub pSat pIadd pIsub pBnot pBeq pImin pImax pLlen pLsub pLapp pLset pLcopy pLenOk pBytes pRep hF Ca hC r hr => ?_
  cbv
  refine loop_u (α := Nat × Nat × List (List Y)) (fun a st => ((st.n 5 (Int.ofNat a.1)).n 1 (Int.ofNat a.2.1)).ob 1 (.ar 1 a.2.2)) (fun a => a.1 ≤ l.length ∧ a.2.1 = k + 1 * a.1 ∧ a.2.2 = (marked (elInt64S k) l a.1).map rowI) (fun a => l.length - a.1) (0, k, xs) rfl ⟨by omega, by dsimp only; omega, hx⟩ (fun K' hK I a hi ih => ?_)
  obtain ⟨i, k0, zs⟩ := a
  obtain ⟨hi, hk0, hz⟩ := hi
  dsimp only at hi hk0 hz
  have hzl : zs.length = l.length := by rw [hz, List.length_map, marked_len _ _ hi]
  cbv
  refine brkI (fun h => ?_) (fun h => ?_) <;> try cbv
  · have hs : i < l.length := hzl ▸ iltT hF h
    have e1 : pAdd .i64 (Int.ofNat i) 1 = Int.ofNat (i + 1) := add1Is hF (by omega)
    have hml : i < (marked (elInt64S k) l i).length := by rw [marked_len _ _ hi]; exact hs
    obtain ⟨u, hu⟩ : ∃ u, u = (marked (elInt64S k) l i)[i] := ⟨_, rfl⟩
    have hget : zs[i]? = some [yN u] := row_get (row := rowI) hz hml hu
    refine brT (zeroLe hF i) (brT (mkIlt hF (by omega)) ?_)
    refine lget (x := [yN u]) hget ?_
    cbv
    obtain ⟨k1, hk1, ek1⟩ : ∃ z, z = k0 + 1 ∧ pAdd .i64 (Int.ofNat k0) 1 = Int.ofNat z := ⟨_, rfl, add1Is hF (by omega)⟩
    rw [ek1]
    conv => arg 1; cbv
    rw [e1]
    have eL : pLset (zs) (Int.ofNat i) [yN (Int.ofNat k0)] = (marked (elInt64S k) l (i + 1)).map rowI := by
      rw [← marked_set (elInt64S k) l hs, List.map_set, ← hz]
      have ee : rowI (elInt64S k i) = [yN (Int.ofNat k0)] := by
        rw [rowI, elInt64S]
        have kk : k0 = k + 1 * i + 0 := by omega
        have r0 := kk
        rw [← r0]
        try rfl
      rw [ee]
      exact lsetIs hF ..
    rw [eL]
    exact ih (i + 1, k1, _) _ ⟨hs, by dsimp only; omega, rfl⟩ (by dsimp only; omega) rfl
  · have hs : i = l.length := Nat.le_antisymm hi (hzl ▸ iltF hF h)
    rw [hs] at hz hk0
    rw [marked_end] at hz
    have hz : zs = q := hz.trans hq.symm
    refine hK _ _ ?_
    cbv
    rw [hr, hz, hk0, hn]
theorem heldInt64S_ok (k m : Nat) (hl : m ≤ 4294967296) (hk : k ≤ 1152921504606846976) : CallOK Try.prog 143 [.c (.y (.sl 1 ((mkInt64S k m).map rowI))), aN (Int.ofNat k)] (N (Int.ofNat (k + 1 * m))) := by
  obtain ⟨l, hll⟩ : ∃ l, l = mkInt64S k m := ⟨_, rfl⟩
  have hlm : l.length = m := by rw [hll, mkInt64S, List.length_map, List.length_range]
  obtain ⟨n, hn⟩ : ∃ n, n = k + 1 * m := ⟨_, rfl⟩
  obtain ⟨xs, hx⟩ : ∃ xs, xs = l.map rowI := ⟨_, rfl⟩
  have hxl : xs.length = l.length := by rw [hx, List.length_map]
  rw [← hn, ← hll, ← hx]
  obtain ⟨M, hM⟩ := mapEx
  try simp only [hM]
  refine go Try.func143 rfl rfl rfl rfl fun pAdd pSub pMul pQuo pRem pAnd pOr pXor pAndNot pShl pShr pNeg pCompl pConv pLt pLe pEq pSlt pSle pSeq pCat pCatOk pSlen pSsub pSat pIadd pIsub pBnot pBeq pImin pImax pLlen pLsub pLapp pLset pLcopy pLenOk pBytes pRep hF Ca hC r hr => ?_
  cbv
  refine loop_u (α := Nat × Nat) (fun a st => ((st.n 5 (Int.ofNat a.1)).n 1 (Int.ofNat a.2))) (fun a => a.1 ≤ l.length ∧ a.2 = k + 1 * a.1) (fun a => l.length - a.1) (0, k) rfl ⟨by omega, by dsimp only; omega⟩ (fun K' hK I a hi ih => ?_)
  obtain ⟨i, k0⟩ := a
  obtain ⟨hi, hk0⟩ := hi
  dsimp only at hi hk0
  cbv
  refine brkI (fun h => ?_) (fun h => ?_) <;> try cbv
  · have hs : i < l.length := hxl ▸ iltT hF h
    have e1 : pAdd .i64 (Int.ofNat i) 1 = Int.ofNat (i + 1) := add1Is hF (by omega)
    refine lgetM (fun u => [yN u]) (fun u => by simp only [rowI]) hx hs fun u hu => ?_
    cbv
    have hu' : u = elInt64S k i := by
      have : l[i] = elInt64S k i := by
        have hs' : i < (mkInt64S k m).length := hll ▸ hs
        have : (mkInt64S k m)[i] = elInt64S k i := by simp [mkInt64S]
        rw [← this]; congr 1
      rw [hu, this]
    have hv0 : u = Int.ofNat k0 := by rw [hu', show k0 = k + 1 * i + 0 by omega]; rfl
    refine brkI (fun h => ?_) (fun h => ?_) <;> try cbv
    rotate_left
    · exact absurd hv0 (eqF hF h)
    all_goals obtain ⟨k1, hk1, ek1⟩ : ∃ z, z = k0 + 1 ∧ pAdd .i64 (Int.ofNat k0) 1 = Int.ofNat z := ⟨_, rfl, add1Is hF (by omega)⟩
    all_goals try rw [ek1]
    all_goals conv => arg 1; cbv
    all_goals rw [e1]
    all_goals try rw [ek1]
    all_goals exact ih (i + 1, k1) _ ⟨hs, by dsimp only; omega⟩ (by dsimp only; omega) rfl
  · have hs : i = l.length := Nat.le_antisymm hi (hxl ▸ iltF hF h)
    refine hK _ _ ?_
    cbv
    rw [hr, hk0, hn, hs, hlm]
def elStringS (k : Nat) : Nat → ByteArray := fun i => mt (k + 1 * i + 0)
def mkStringS (k n : Nat) : List ByteArray := (List.range n).map (elStringS k)
theorem markStringS_ok (l : List ByteArray) (k : Nat) (hl : l.length ≤ 4294967296) (hk : k ≤ 1152921504606846976) : CallOK Try.prog 69 [.ir false [.own 1 (l.map rowS)], aN (Int.ofNat k)] ⟨.c (.y (.sc (.int .i64 (Int.ofNat (k + 1 * l.length))))), [[.own 1 ((mkStringS k l.length).map rowS)]]⟩ := by
  obtain ⟨q, hq⟩ : ∃ q, q = (mkStringS k l.length).map rowS := ⟨_, rfl⟩
  obtain ⟨n, hn⟩ : ∃ n, n = k + 1 * l.length := ⟨_, rfl⟩
  obtain ⟨xs, hx⟩ : ∃ xs, xs = l.map rowS := ⟨_, rfl⟩
  rw [← hq, ← hn, ← hx]
  obtain ⟨M, hM⟩ := mapEx
  try simp only [hM]
  refine go Try.func69 rfl rfl rfl rfl fun pAdd pSub pMul pQuo pRem pAnd pOr pXor pAndNot pShl pShr pNeg pCompl pConv pLt pLe pEq pSlt pSle pSeq pCat pCatOk pSlen pSsub pSat pIadd pIsub pBnot pBeq pImin pImax pLlen pLsub pLapp pLset pLcopy pLenOk pBytes pRep hF Ca hC r hr => ?_
  cbv
  refine loop_u (α := Nat × Nat × List (List Y)) (fun a st => ((st.n 5 (Int.ofNat a.1)).n 1 (Int.ofNat a.2.1)).ob 1 (.ar 1 a.2.2)) (fun a => a.1 ≤ l.length ∧ a.2.1 = k + 1 * a.1 ∧ a.2.2 = (marked (elStringS k) l a.1).map rowS) (fun a => l.length - a.1) (0, k, xs) rfl ⟨by omega, by dsimp only; omega, hx⟩ (fun K' hK I a hi ih => ?_)
  obtain ⟨i, k0, zs⟩ := a
  obtain ⟨hi, hk0, hz⟩ := hi
  dsimp only at hi hk0 hz
  have hzl : zs.length = l.length := by rw [hz, List.length_map, marked_len _ _ hi]
  cbv
  refine brkI (fun h => ?_) (fun h => ?_) <;> try cbv
  · have hs : i < l.length := hzl ▸ iltT hF h
    have e1 : pAdd .i64 (Int.ofNat i) 1 = Int.ofNat (i + 1) := add1Is hF (by omega)
    have hml : i < (marked (elStringS k) l i).length := by rw [marked_len _ _ hi]; exact hs
    obtain ⟨u, hu⟩ : ∃ u, u = (marked (elStringS k) l i)[i] := ⟨_, rfl⟩
    have hget : zs[i]? = some [yS u] := row_get (row := rowS) hz hml hu
    refine callS hC (markText_ok k0 (by omega)) (fun t0 ht0 => ?_)
    cbv
    refine brT (zeroLe hF i) (brT (mkIlt hF (by omega)) ?_)
    refine lget (x := [yS u]) hget ?_
    cbv
    obtain ⟨k1, hk1, ek1⟩ : ∃ z, z = k0 + 1 ∧ pAdd .i64 (Int.ofNat k0) 1 = Int.ofNat z := ⟨_, rfl, add1Is hF (by omega)⟩
    rw [ek1]
    conv => arg 1; cbv
    rw [e1]
    have eL : pLset (zs) (Int.ofNat i) [yS t0] = (marked (elStringS k) l (i + 1)).map rowS := by
      rw [← marked_set (elStringS k) l hs, List.map_set, ← hz]
      have ee : rowS (elStringS k i) = [yS t0] := by
        rw [rowS, elStringS]
        have kk : k0 = k + 1 * i + 0 := by omega
        have r0 := kk
        rw [← r0]
        rw [ht0]
        try rfl
      rw [ee]
      exact lsetIs hF ..
    rw [eL]
    exact ih (i + 1, k1, _) _ ⟨hs, by dsimp only; omega, rfl⟩ (by dsimp only; omega) rfl
  · have hs : i = l.length := Nat.le_antisymm hi (hzl ▸ iltF hF h)
    rw [hs] at hz hk0
    rw [marked_end] at hz
    have hz : zs = q := hz.trans hq.symm
    refine hK _ _ ?_
    cbv
    rw [hr, hz, hk0, hn]
theorem heldStringS_ok (k m : Nat) (hl : m ≤ 4294967296) (hk : k ≤ 1152921504606846976) : CallOK Try.prog 71 [.c (.y (.sl 1 ((mkStringS k m).map rowS))), aN (Int.ofNat k)] (N (Int.ofNat (k + 1 * m))) := by
  obtain ⟨l, hll⟩ : ∃ l, l = mkStringS k m := ⟨_, rfl⟩
  have hlm : l.length = m := by rw [hll, mkStringS, List.length_map, List.length_range]
  obtain ⟨n, hn⟩ : ∃ n, n = k + 1 * m := ⟨_, rfl⟩
  obtain ⟨xs, hx⟩ : ∃ xs, xs = l.map rowS := ⟨_, rfl⟩
  have hxl : xs.length = l.length := by rw [hx, List.length_map]
  rw [← hn, ← hll, ← hx]
  obtain ⟨M, hM⟩ := mapEx
  try simp only [hM]
  refine go Try.func71 rfl rfl rfl rfl fun pAdd pSub pMul pQuo pRem pAnd pOr pXor pAndNot pShl pShr pNeg pCompl pConv pLt pLe pEq pSlt pSle pSeq pCat pCatOk pSlen pSsub pSat pIadd pIsub pBnot pBeq pImin pImax pLlen pLsub pLapp pLset pLcopy pLenOk pBytes pRep hF Ca hC r hr => ?_
  cbv
  refine loop_u (α := Nat × Nat) (fun a st => ((st.n 5 (Int.ofNat a.1)).n 1 (Int.ofNat a.2))) (fun a => a.1 ≤ l.length ∧ a.2 = k + 1 * a.1) (fun a => l.length - a.1) (0, k) rfl ⟨by omega, by dsimp only; omega⟩ (fun K' hK I a hi ih => ?_)
  obtain ⟨i, k0⟩ := a
  obtain ⟨hi, hk0⟩ := hi
  dsimp only at hi hk0
  cbv
  refine brkI (fun h => ?_) (fun h => ?_) <;> try cbv
  · have hs : i < l.length := hxl ▸ iltT hF h
    have e1 : pAdd .i64 (Int.ofNat i) 1 = Int.ofNat (i + 1) := add1Is hF (by omega)
    refine lgetM (fun u => [yS u]) (fun u => by simp only [rowS]) hx hs fun u hu => ?_
    cbv
    have hu' : u = elStringS k i := by
      have : l[i] = elStringS k i := by
        have hs' : i < (mkStringS k m).length := hll ▸ hs
        have : (mkStringS k m)[i] = elStringS k i := by simp [mkStringS]
        rw [← this]; congr 1
      rw [hu, this]
    have hv0 : u = mt k0 := by rw [hu', show k0 = k + 1 * i + 0 by omega]; rfl
    refine callS hC (markText_ok k0 (by omega)) (fun t0 ht0 => ?_)
    cbv
    refine brkI (fun h => ?_) (fun h => ?_) <;> try cbv
    rotate_left
    · exact absurd (hv0.trans ht0.symm) (seqF hF h)
    all_goals obtain ⟨k1, hk1, ek1⟩ : ∃ z, z = k0 + 1 ∧ pAdd .i64 (Int.ofNat k0) 1 = Int.ofNat z := ⟨_, rfl, add1Is hF (by omega)⟩
    all_goals try rw [ek1]
    all_goals conv => arg 1; cbv
    all_goals rw [e1]
    all_goals try rw [ek1]
    all_goals exact ih (i + 1, k1) _ ⟨hs, by dsimp only; omega⟩ (by dsimp only; omega) rfl
  · have hs : i = l.length := Nat.le_antisymm hi (hxl ▸ iltF hF h)
    refine hK _ _ ?_
    cbv
    rw [hr, hk0, hn, hs, hlm]
def elBoolS (k : Nat) : Nat → Bool := fun i => mb (k + 1 * i + 0)
def mkBoolS (k n : Nat) : List Bool := (List.range n).map (elBoolS k)
theorem markBoolS_ok (l : List Bool) (k : Nat) (hl : l.length ≤ 4294967296) (hk : k ≤ 1152921504606846976) : CallOK Try.prog 28 [.ir false [.own 1 (l.map rowB)], aN (Int.ofNat k)] ⟨.c (.y (.sc (.int .i64 (Int.ofNat (k + 1 * l.length))))), [[.own 1 ((mkBoolS k l.length).map rowB)]]⟩ := by
  obtain ⟨q, hq⟩ : ∃ q, q = (mkBoolS k l.length).map rowB := ⟨_, rfl⟩
  obtain ⟨n, hn⟩ : ∃ n, n = k + 1 * l.length := ⟨_, rfl⟩
  obtain ⟨xs, hx⟩ : ∃ xs, xs = l.map rowB := ⟨_, rfl⟩
  rw [← hq, ← hn, ← hx]
  obtain ⟨M, hM⟩ := mapEx
  try simp only [hM]
  refine go Try.func28 rfl rfl rfl rfl fun pAdd pSub pMul pQuo pRem pAnd pOr pXor pAndNot pShl pShr pNeg pCompl pConv pLt pLe pEq pSlt pSle pSeq pCat pCatOk pSlen pSsub pSat pIadd pIsub pBnot pBeq pImin pImax pLlen pLsub pLapp pLset pLcopy pLenOk pBytes pRep hF Ca hC r hr => ?_
  cbv
  refine loop_u (α := Nat × Nat × List (List Y)) (fun a st => ((st.n 5 (Int.ofNat a.1)).n 1 (Int.ofNat a.2.1)).ob 1 (.ar 1 a.2.2)) (fun a => a.1 ≤ l.length ∧ a.2.1 = k + 1 * a.1 ∧ a.2.2 = (marked (elBoolS k) l a.1).map rowB) (fun a => l.length - a.1) (0, k, xs) rfl ⟨by omega, by dsimp only; omega, hx⟩ (fun K' hK I a hi ih => ?_)
  obtain ⟨i, k0, zs⟩ := a
  obtain ⟨hi, hk0, hz⟩ := hi
  dsimp only at hi hk0 hz
  have hzl : zs.length = l.length := by rw [hz, List.length_map, marked_len _ _ hi]
  cbv
  refine brkI (fun h => ?_) (fun h => ?_) <;> try cbv
  · have hs : i < l.length := hzl ▸ iltT hF h
    have e1 : pAdd .i64 (Int.ofNat i) 1 = Int.ofNat (i + 1) := add1Is hF (by omega)
    have hml : i < (marked (elBoolS k) l i).length := by rw [marked_len _ _ hi]; exact hs
    obtain ⟨u, hu⟩ : ∃ u, u = (marked (elBoolS k) l i)[i] := ⟨_, rfl⟩
    have hget : zs[i]? = some [yB u] := row_get (row := rowB) hz hml hu
    have eL : ∀ b0, b0 = mb k0 → pLset zs (Int.ofNat i) [yB b0] = (marked (elBoolS k) l (i + 1)).map rowB := fun b0 hb => by
      rw [← marked_set (elBoolS k) l hs, List.map_set, ← hz]
      have ee : rowB (elBoolS k i) = [yB b0] := by
        rw [rowB, elBoolS, hb, show k + 1 * i + 0 = k0 by omega]
      rw [ee]
      exact lsetIs hF ..
    have er0 : pRem .i64 (Int.ofNat k0) 3 = Int.ofNat (k0 % 3) := by
      have : prims.rem .i64 (Int.ofNat k0) 3 = Int.ofNat (k0 % 3) := by
        rfl
      rw [hF] at this; exact this
    refine brF (by first | rfl | exact mkNe hF (by decide)) ?_
    obtain ⟨b0, hb0⟩ : ∃ b, b = pEq (pRem .i64 (Int.ofNat k0) 3) 0 := ⟨_, rfl⟩
    have hb0' : b0 = mb k0 := by
      rw [hb0, er0, show pEq (Int.ofNat (k0 % 3)) 0 = decide (Int.ofNat (k0 % 3) = 0) from eqD hF .., mb, Bool.eq_iff_iff]
      (first | (simp only [Bool.or_eq_true, Bool.and_eq_true, Bool.not_eq_true', Bool.or_eq_false_iff, Bool.and_eq_false_iff, Bool.not_eq_false', decide_eq_true_eq, decide_eq_false_iff_not, Bool.not_false, Bool.not_true, Bool.and_true, Bool.true_and, Bool.or_false, Bool.false_or, and_true, true_and, Int.ofNat_eq_natCast] at *; omega) | (simp only [Bool.eq_false_iff, ne_eq, Bool.or_eq_true, Bool.and_eq_true, Bool.not_eq_true', decide_eq_true_eq, decide_eq_false_iff_not, Bool.not_false, Bool.not_true, Bool.and_true, Bool.true_and, Bool.or_false, Bool.false_or, and_true, true_and, Int.ofNat_eq_natCast] at *; omega) | (simp only [Bool.or_eq_true, Bool.and_eq_true, Bool.not_eq_true', Bool.or_eq_false_iff, Bool.and_eq_false_iff, Bool.not_eq_false', decide_eq_true_eq, decide_eq_false_iff_not, Bool.not_false, Bool.not_true, Bool.and_true, Bool.true_and, Bool.or_false, Bool.false_or, and_true, true_and, Int.ofNat_eq_natCast] at *; grind) | grind)
    rw [← hb0]
    clear hb0
    cases b0
    all_goals try cbv
    all_goals refine brT (zeroLe hF i) (brT (mkIlt hF (by omega)) ?_)
    all_goals refine lget (x := [yB u]) hget ?_
    all_goals cbv
    all_goals obtain ⟨k1, hk1, ek1⟩ : ∃ z, z = k0 + 1 ∧ pAdd .i64 (Int.ofNat k0) 1 = Int.ofNat z := ⟨_, rfl, add1Is hF (by omega)⟩
    all_goals try rw [ek1]
    all_goals conv => arg 1; cbv
    all_goals rw [e1]
    all_goals exact ih (i + 1, k1, _) _ ⟨hs, by dsimp only; omega, eL _ hb0'⟩ (by dsimp only; omega) rfl
  · have hs : i = l.length := Nat.le_antisymm hi (hzl ▸ iltF hF h)
    rw [hs] at hz hk0
    rw [marked_end] at hz
    have hz : zs = q := hz.trans hq.symm
    refine hK _ _ ?_
    cbv
    rw [hr, hz, hk0, hn]
def elValueS (k : Nat) : Nat → Val := fun i => ⟨Int.ofNat (k + 3 * i + 0), Int.ofNat (k + 3 * i + 1), mt (k + 3 * i + 2)⟩
def mkValueS (k n : Nat) : List Val := (List.range n).map (elValueS k)
theorem markValueS_ok (l : List Val) (k : Nat) (hl : l.length ≤ 4294967296) (hk : k ≤ 1152921504606846976) : CallOK Try.prog 156 [.ir false [.own 3 (l.map Val.row)], aN (Int.ofNat k)] ⟨.c (.y (.sc (.int .i64 (Int.ofNat (k + 3 * l.length))))), [[.own 3 ((mkValueS k l.length).map Val.row)]]⟩ := by
  obtain ⟨q, hq⟩ : ∃ q, q = (mkValueS k l.length).map Val.row := ⟨_, rfl⟩
  obtain ⟨n, hn⟩ : ∃ n, n = k + 3 * l.length := ⟨_, rfl⟩
  obtain ⟨xs, hx⟩ : ∃ xs, xs = l.map Val.row := ⟨_, rfl⟩
  rw [← hq, ← hn, ← hx]
  obtain ⟨M, hM⟩ := mapEx
  try simp only [hM]
  refine go Try.func156 rfl rfl rfl rfl fun pAdd pSub pMul pQuo pRem pAnd pOr pXor pAndNot pShl pShr pNeg pCompl pConv pLt pLe pEq pSlt pSle pSeq pCat pCatOk pSlen pSsub pSat pIadd pIsub pBnot pBeq pImin pImax pLlen pLsub pLapp pLset pLcopy pLenOk pBytes pRep hF Ca hC r hr => ?_
  cbv
  refine loop_u (α := Nat × Nat × List (List Y)) (fun a st => ((st.n 5 (Int.ofNat a.1)).n 1 (Int.ofNat a.2.1)).ob 1 (.ar 3 a.2.2)) (fun a => a.1 ≤ l.length ∧ a.2.1 = k + 3 * a.1 ∧ a.2.2 = (marked (elValueS k) l a.1).map Val.row) (fun a => l.length - a.1) (0, k, xs) rfl ⟨by omega, by dsimp only; omega, hx⟩ (fun K' hK I a hi ih => ?_)
  obtain ⟨i, k0, zs⟩ := a
  obtain ⟨hi, hk0, hz⟩ := hi
  dsimp only at hi hk0 hz
  have hzl : zs.length = l.length := by rw [hz, List.length_map, marked_len _ _ hi]
  cbv
  refine brkI (fun h => ?_) (fun h => ?_) <;> try cbv
  · have hs : i < l.length := hzl ▸ iltT hF h
    have e1 : pAdd .i64 (Int.ofNat i) 1 = Int.ofNat (i + 1) := add1Is hF (by omega)
    have hml : i < (marked (elValueS k) l i).length := by rw [marked_len _ _ hi]; exact hs
    obtain ⟨u, hu⟩ : ∃ u, u = (marked (elValueS k) l i)[i] := ⟨_, rfl⟩
    have hget : zs[i]? = some [yN u.k, yN u.n, yS u.s] := row_get (row := Val.row) hz hml hu
    refine brT (zeroLe hF i) (brT (mkIlt hF (by omega)) ?_)
    refine lget (x := [yN u.k, yN u.n, yS u.s]) hget ?_
    cbv
    obtain ⟨k1, hk1, ek1⟩ : ∃ z, z = k0 + 1 ∧ pAdd .i64 (Int.ofNat k0) 1 = Int.ofNat z := ⟨_, rfl, add1Is hF (by omega)⟩
    rw [ek1]
    have hl1 : (pLset (zs) (Int.ofNat i) [yN (Int.ofNat k0), yN u.n, yS u.s]).length = l.length := by exact (lset_length hF _ _ _).trans hzl
    refine brT (zeroLe hF i) (brT (mkIlt hF (Nat.lt_of_lt_of_eq hs hl1.symm)) ?_)
    refine lget (x := [yN (Int.ofNat k0), yN u.n, yS u.s]) (lset_get hF (Nat.lt_of_lt_of_eq hs hzl.symm) _) ?_
    cbv
    obtain ⟨k2, hk2, ek2⟩ : ∃ z, z = k1 + 1 ∧ pAdd .i64 (Int.ofNat k1) 1 = Int.ofNat z := ⟨_, rfl, add1Is hF (by omega)⟩
    rw [ek2]
    refine callS hC (markText_ok k2 (by omega)) (fun t2 ht2 => ?_)
    cbv
    have hl2 : (pLset (pLset (zs) (Int.ofNat i) [yN (Int.ofNat k0), yN u.n, yS u.s]) (Int.ofNat i) [yN (Int.ofNat k0), yN (Int.ofNat k1), yS u.s]).length = l.length := by exact (lset_length hF _ _ _).trans hl1
    refine brT (zeroLe hF i) (brT (mkIlt hF (Nat.lt_of_lt_of_eq hs hl2.symm)) ?_)
    refine lget (x := [yN (Int.ofNat k0), yN (Int.ofNat k1), yS u.s]) (lset_get hF (Nat.lt_of_lt_of_eq hs hl1.symm) _) ?_
    cbv
    obtain ⟨k3, hk3, ek3⟩ : ∃ z, z = k2 + 1 ∧ pAdd .i64 (Int.ofNat k2) 1 = Int.ofNat z := ⟨_, rfl, add1Is hF (by omega)⟩
    rw [ek3]
    conv => arg 1; cbv
    rw [e1]
    have eL : pLset (pLset (pLset (zs) (Int.ofNat i) [yN (Int.ofNat k0), yN u.n, yS u.s]) (Int.ofNat i) [yN (Int.ofNat k0), yN (Int.ofNat k1), yS u.s]) (Int.ofNat i) [yN (Int.ofNat k0), yN (Int.ofNat k1), yS t2] = (marked (elValueS k) l (i + 1)).map Val.row := by
      have ll : ∀ l x y, pLset (pLset l (Int.ofNat i) x) (Int.ofNat i) y = pLset l (Int.ofNat i) y := fun l x y => lset_lset hF l _ x y
      rw [ll, ll]
      rw [← marked_set (elValueS k) l hs, List.map_set, ← hz]
      have ee : Val.row (elValueS k i) = [yN (Int.ofNat k0), yN (Int.ofNat k1), yS t2] := by
        rw [Val.row, elValueS]
        have kk : k0 = k + 3 * i + 0 ∧ k1 = k + 3 * i + 1 ∧ k2 = k + 3 * i + 2 := by omega
        obtain ⟨r0, r1, r2⟩ := kk
        rw [← r0, ← r1, ← r2]
        rw [ht2]
        try rfl
      rw [ee]
      exact lsetIs hF ..
    rw [eL]
    exact ih (i + 1, k3, _) _ ⟨hs, by dsimp only; omega, rfl⟩ (by dsimp only; omega) rfl
  · have hs : i = l.length := Nat.le_antisymm hi (hzl ▸ iltF hF h)
    rw [hs] at hz hk0
    rw [marked_end] at hz
    have hz : zs = q := hz.trans hq.symm
    refine hK _ _ ?_
    cbv
    rw [hr, hz, hk0, hn]
theorem heldValueS_ok (k m : Nat) (hl : m ≤ 4294967296) (hk : k ≤ 1152921504606846976) : CallOK Try.prog 157 [.c (.y (.sl 3 ((mkValueS k m).map Val.row))), aN (Int.ofNat k)] (N (Int.ofNat (k + 3 * m))) := by
  obtain ⟨l, hll⟩ : ∃ l, l = mkValueS k m := ⟨_, rfl⟩
  have hlm : l.length = m := by rw [hll, mkValueS, List.length_map, List.length_range]
  obtain ⟨n, hn⟩ : ∃ n, n = k + 3 * m := ⟨_, rfl⟩
  obtain ⟨xs, hx⟩ : ∃ xs, xs = l.map Val.row := ⟨_, rfl⟩
  have hxl : xs.length = l.length := by rw [hx, List.length_map]
  rw [← hn, ← hll, ← hx]
  obtain ⟨M, hM⟩ := mapEx
  try simp only [hM]
  refine go Try.func157 rfl rfl rfl rfl fun pAdd pSub pMul pQuo pRem pAnd pOr pXor pAndNot pShl pShr pNeg pCompl pConv pLt pLe pEq pSlt pSle pSeq pCat pCatOk pSlen pSsub pSat pIadd pIsub pBnot pBeq pImin pImax pLlen pLsub pLapp pLset pLcopy pLenOk pBytes pRep hF Ca hC r hr => ?_
  cbv
  refine loop_u (α := Nat × Nat) (fun a st => ((st.n 5 (Int.ofNat a.1)).n 1 (Int.ofNat a.2))) (fun a => a.1 ≤ l.length ∧ a.2 = k + 3 * a.1) (fun a => l.length - a.1) (0, k) rfl ⟨by omega, by dsimp only; omega⟩ (fun K' hK I a hi ih => ?_)
  obtain ⟨i, k0⟩ := a
  obtain ⟨hi, hk0⟩ := hi
  dsimp only at hi hk0
  cbv
  refine brkI (fun h => ?_) (fun h => ?_) <;> try cbv
  · have hs : i < l.length := hxl ▸ iltT hF h
    have e1 : pAdd .i64 (Int.ofNat i) 1 = Int.ofNat (i + 1) := add1Is hF (by omega)
    refine lgetM (fun u => [yN u.k, yN u.n, yS u.s]) (fun u => by simp only [Val.row, hM]) hx hs fun u hu => ?_
    cbv
    have hu' : u = elValueS k i := by
      have : l[i] = elValueS k i := by
        have hs' : i < (mkValueS k m).length := hll ▸ hs
        have : (mkValueS k m)[i] = elValueS k i := by simp [mkValueS]
        rw [← this]; congr 1
      rw [hu, this]
    have hv0 : u.k = Int.ofNat k0 := by rw [hu', show k0 = k + 3 * i + 0 by omega]; rfl
    refine brkI (fun h => ?_) (fun h => ?_) <;> try cbv
    rotate_left
    · exact absurd hv0 (eqF hF h)
    all_goals obtain ⟨k1, hk1, ek1⟩ : ∃ z, z = k0 + 1 ∧ pAdd .i64 (Int.ofNat k0) 1 = Int.ofNat z := ⟨_, rfl, add1Is hF (by omega)⟩
    all_goals try rw [ek1]
    have hv1 : u.n = Int.ofNat k1 := by rw [hu', show k1 = k + 3 * i + 1 by omega]; rfl
    refine lgetM (fun u => [yN u.k, yN u.n, yS u.s]) (fun u => by simp only [Val.row, hM]) hx hs fun v11 hv11 => ?_
    rw [show v11 = u from hv11.trans hu.symm]
    cbv
    refine brkI (fun h => ?_) (fun h => ?_) <;> try cbv
    rotate_left
    · exact absurd hv1 (eqF hF h)
    all_goals obtain ⟨k2, hk2, ek2⟩ : ∃ z, z = k1 + 1 ∧ pAdd .i64 (Int.ofNat k1) 1 = Int.ofNat z := ⟨_, rfl, add1Is hF (by omega)⟩
    all_goals try rw [ek2]
    have hv2 : u.s = mt k2 := by rw [hu', show k2 = k + 3 * i + 2 by omega]; rfl
    refine lgetM (fun u => [yN u.k, yN u.n, yS u.s]) (fun u => by simp only [Val.row, hM]) hx hs fun v12 hv12 => ?_
    rw [show v12 = u from hv12.trans hu.symm]
    cbv
    refine callS hC (markText_ok k2 (by omega)) (fun t2 ht2 => ?_)
    cbv
    refine brkI (fun h => ?_) (fun h => ?_) <;> try cbv
    rotate_left
    · exact absurd (hv2.trans ht2.symm) (seqF hF h)
    all_goals obtain ⟨k3, hk3, ek3⟩ : ∃ z, z = k2 + 1 ∧ pAdd .i64 (Int.ofNat k2) 1 = Int.ofNat z := ⟨_, rfl, add1Is hF (by omega)⟩
    all_goals try rw [ek3]
    all_goals conv => arg 1; cbv
    all_goals rw [e1]
    all_goals try rw [ek3]
    all_goals exact ih (i + 1, k3) _ ⟨hs, by dsimp only; omega⟩ (by dsimp only; omega) rfl
  · have hs : i = l.length := Nat.le_antisymm hi (hxl ▸ iltF hF h)
    refine hK _ _ ?_
    cbv
    rw [hr, hk0, hn, hs, hlm]
def elWriteS (k : Nat) : Nat → Wr := fun i => ⟨Int.ofNat (k + 2 * i + 0), mt (k + 2 * i + 1)⟩
def mkWriteS (k n : Nat) : List Wr := (List.range n).map (elWriteS k)
theorem markWriteS_ok (l : List Wr) (k : Nat) (hl : l.length ≤ 4294967296) (hk : k ≤ 1152921504606846976) : CallOK Try.prog 70 [.ir false [.own 2 (l.map Wr.row)], aN (Int.ofNat k)] ⟨.c (.y (.sc (.int .i64 (Int.ofNat (k + 2 * l.length))))), [[.own 2 ((mkWriteS k l.length).map Wr.row)]]⟩ := by
  obtain ⟨q, hq⟩ : ∃ q, q = (mkWriteS k l.length).map Wr.row := ⟨_, rfl⟩
  obtain ⟨n, hn⟩ : ∃ n, n = k + 2 * l.length := ⟨_, rfl⟩
  obtain ⟨xs, hx⟩ : ∃ xs, xs = l.map Wr.row := ⟨_, rfl⟩
  rw [← hq, ← hn, ← hx]
  obtain ⟨M, hM⟩ := mapEx
  try simp only [hM]
  refine go Try.func70 rfl rfl rfl rfl fun pAdd pSub pMul pQuo pRem pAnd pOr pXor pAndNot pShl pShr pNeg pCompl pConv pLt pLe pEq pSlt pSle pSeq pCat pCatOk pSlen pSsub pSat pIadd pIsub pBnot pBeq pImin pImax pLlen pLsub pLapp pLset pLcopy pLenOk pBytes pRep hF Ca hC r hr => ?_
  cbv
  refine loop_u (α := Nat × Nat × List (List Y)) (fun a st => ((st.n 5 (Int.ofNat a.1)).n 1 (Int.ofNat a.2.1)).ob 1 (.ar 2 a.2.2)) (fun a => a.1 ≤ l.length ∧ a.2.1 = k + 2 * a.1 ∧ a.2.2 = (marked (elWriteS k) l a.1).map Wr.row) (fun a => l.length - a.1) (0, k, xs) rfl ⟨by omega, by dsimp only; omega, hx⟩ (fun K' hK I a hi ih => ?_)
  obtain ⟨i, k0, zs⟩ := a
  obtain ⟨hi, hk0, hz⟩ := hi
  dsimp only at hi hk0 hz
  have hzl : zs.length = l.length := by rw [hz, List.length_map, marked_len _ _ hi]
  cbv
  refine brkI (fun h => ?_) (fun h => ?_) <;> try cbv
  · have hs : i < l.length := hzl ▸ iltT hF h
    have e1 : pAdd .i64 (Int.ofNat i) 1 = Int.ofNat (i + 1) := add1Is hF (by omega)
    have hml : i < (marked (elWriteS k) l i).length := by rw [marked_len _ _ hi]; exact hs
    obtain ⟨u, hu⟩ : ∃ u, u = (marked (elWriteS k) l i)[i] := ⟨_, rfl⟩
    have hget : zs[i]? = some [yN u.at_, yS u.text] := row_get (row := Wr.row) hz hml hu
    refine brT (zeroLe hF i) (brT (mkIlt hF (by omega)) ?_)
    refine lget (x := [yN u.at_, yS u.text]) hget ?_
    cbv
    obtain ⟨k1, hk1, ek1⟩ : ∃ z, z = k0 + 1 ∧ pAdd .i64 (Int.ofNat k0) 1 = Int.ofNat z := ⟨_, rfl, add1Is hF (by omega)⟩
    rw [ek1]
    refine callS hC (markText_ok k1 (by omega)) (fun t1 ht1 => ?_)
    cbv
    have hl1 : (pLset (zs) (Int.ofNat i) [yN (Int.ofNat k0), yS u.text]).length = l.length := by exact (lset_length hF _ _ _).trans hzl
    refine brT (zeroLe hF i) (brT (mkIlt hF (Nat.lt_of_lt_of_eq hs hl1.symm)) ?_)
    refine lget (x := [yN (Int.ofNat k0), yS u.text]) (lset_get hF (Nat.lt_of_lt_of_eq hs hzl.symm) _) ?_
    cbv
    obtain ⟨k2, hk2, ek2⟩ : ∃ z, z = k1 + 1 ∧ pAdd .i64 (Int.ofNat k1) 1 = Int.ofNat z := ⟨_, rfl, add1Is hF (by omega)⟩
    rw [ek2]
    conv => arg 1; cbv
    rw [e1]
    have eL : pLset (pLset (zs) (Int.ofNat i) [yN (Int.ofNat k0), yS u.text]) (Int.ofNat i) [yN (Int.ofNat k0), yS t1] = (marked (elWriteS k) l (i + 1)).map Wr.row := by
      have ll : ∀ l x y, pLset (pLset l (Int.ofNat i) x) (Int.ofNat i) y = pLset l (Int.ofNat i) y := fun l x y => lset_lset hF l _ x y
      rw [ll]
      rw [← marked_set (elWriteS k) l hs, List.map_set, ← hz]
      have ee : Wr.row (elWriteS k i) = [yN (Int.ofNat k0), yS t1] := by
        rw [Wr.row, elWriteS]
        have kk : k0 = k + 2 * i + 0 ∧ k1 = k + 2 * i + 1 := by omega
        obtain ⟨r0, r1⟩ := kk
        rw [← r0, ← r1]
        rw [ht1]
        try rfl
      rw [ee]
      exact lsetIs hF ..
    rw [eL]
    exact ih (i + 1, k2, _) _ ⟨hs, by dsimp only; omega, rfl⟩ (by dsimp only; omega) rfl
  · have hs : i = l.length := Nat.le_antisymm hi (hzl ▸ iltF hF h)
    rw [hs] at hz hk0
    rw [marked_end] at hz
    have hz : zs = q := hz.trans hq.symm
    refine hK _ _ ?_
    cbv
    rw [hr, hz, hk0, hn]
theorem heldWriteS_ok (k m : Nat) (hl : m ≤ 4294967296) (hk : k ≤ 1152921504606846976) : CallOK Try.prog 72 [.c (.y (.sl 2 ((mkWriteS k m).map Wr.row))), aN (Int.ofNat k)] (N (Int.ofNat (k + 2 * m))) := by
  obtain ⟨l, hll⟩ : ∃ l, l = mkWriteS k m := ⟨_, rfl⟩
  have hlm : l.length = m := by rw [hll, mkWriteS, List.length_map, List.length_range]
  obtain ⟨n, hn⟩ : ∃ n, n = k + 2 * m := ⟨_, rfl⟩
  obtain ⟨xs, hx⟩ : ∃ xs, xs = l.map Wr.row := ⟨_, rfl⟩
  have hxl : xs.length = l.length := by rw [hx, List.length_map]
  rw [← hn, ← hll, ← hx]
  obtain ⟨M, hM⟩ := mapEx
  try simp only [hM]
  refine go Try.func72 rfl rfl rfl rfl fun pAdd pSub pMul pQuo pRem pAnd pOr pXor pAndNot pShl pShr pNeg pCompl pConv pLt pLe pEq pSlt pSle pSeq pCat pCatOk pSlen pSsub pSat pIadd pIsub pBnot pBeq pImin pImax pLlen pLsub pLapp pLset pLcopy pLenOk pBytes pRep hF Ca hC r hr => ?_
  cbv
  refine loop_u (α := Nat × Nat) (fun a st => ((st.n 5 (Int.ofNat a.1)).n 1 (Int.ofNat a.2))) (fun a => a.1 ≤ l.length ∧ a.2 = k + 2 * a.1) (fun a => l.length - a.1) (0, k) rfl ⟨by omega, by dsimp only; omega⟩ (fun K' hK I a hi ih => ?_)
  obtain ⟨i, k0⟩ := a
  obtain ⟨hi, hk0⟩ := hi
  dsimp only at hi hk0
  cbv
  refine brkI (fun h => ?_) (fun h => ?_) <;> try cbv
  · have hs : i < l.length := hxl ▸ iltT hF h
    have e1 : pAdd .i64 (Int.ofNat i) 1 = Int.ofNat (i + 1) := add1Is hF (by omega)
    refine lgetM (fun u => [yN u.at_, yS u.text]) (fun u => by simp only [Wr.row, hM]) hx hs fun u hu => ?_
    cbv
    have hu' : u = elWriteS k i := by
      have : l[i] = elWriteS k i := by
        have hs' : i < (mkWriteS k m).length := hll ▸ hs
        have : (mkWriteS k m)[i] = elWriteS k i := by simp [mkWriteS]
        rw [← this]; congr 1
      rw [hu, this]
    have hv0 : u.at_ = Int.ofNat k0 := by rw [hu', show k0 = k + 2 * i + 0 by omega]; rfl
    refine brkI (fun h => ?_) (fun h => ?_) <;> try cbv
    rotate_left
    · exact absurd hv0 (eqF hF h)
    all_goals obtain ⟨k1, hk1, ek1⟩ : ∃ z, z = k0 + 1 ∧ pAdd .i64 (Int.ofNat k0) 1 = Int.ofNat z := ⟨_, rfl, add1Is hF (by omega)⟩
    all_goals try rw [ek1]
    have hv1 : u.text = mt k1 := by rw [hu', show k1 = k + 2 * i + 1 by omega]; rfl
    refine lgetM (fun u => [yN u.at_, yS u.text]) (fun u => by simp only [Wr.row, hM]) hx hs fun v11 hv11 => ?_
    rw [show v11 = u from hv11.trans hu.symm]
    cbv
    refine callS hC (markText_ok k1 (by omega)) (fun t1 ht1 => ?_)
    cbv
    refine brkI (fun h => ?_) (fun h => ?_) <;> try cbv
    rotate_left
    · exact absurd (hv1.trans ht1.symm) (seqF hF h)
    all_goals obtain ⟨k2, hk2, ek2⟩ : ∃ z, z = k1 + 1 ∧ pAdd .i64 (Int.ofNat k1) 1 = Int.ofNat z := ⟨_, rfl, add1Is hF (by omega)⟩
    all_goals try rw [ek2]
    all_goals conv => arg 1; cbv
    all_goals rw [e1]
    all_goals try rw [ek2]
    all_goals exact ih (i + 1, k2) _ ⟨hs, by dsimp only; omega⟩ (by dsimp only; omega) rfl
  · have hs : i = l.length := Nat.le_antisymm hi (hxl ▸ iltF hF h)
    refine hK _ _ ?_
    cbv
    rw [hr, hk0, hn, hs, hlm]
def elRecordS (k : Nat) : Nat → Rcd := fun i => ⟨Int.ofNat (k + 2 * i + 0), mt (k + 2 * i + 1)⟩
def mkRecordS (k n : Nat) : List Rcd := (List.range n).map (elRecordS k)
theorem markRecordS_ok (l : List Rcd) (k : Nat) (hl : l.length ≤ 4294967296) (hk : k ≤ 1152921504606846976) : CallOK Try.prog 105 [.ir false [.own 2 (l.map Rcd.row)], aN (Int.ofNat k)] ⟨.c (.y (.sc (.int .i64 (Int.ofNat (k + 2 * l.length))))), [[.own 2 ((mkRecordS k l.length).map Rcd.row)]]⟩ := by
  obtain ⟨q, hq⟩ : ∃ q, q = (mkRecordS k l.length).map Rcd.row := ⟨_, rfl⟩
  obtain ⟨n, hn⟩ : ∃ n, n = k + 2 * l.length := ⟨_, rfl⟩
  obtain ⟨xs, hx⟩ : ∃ xs, xs = l.map Rcd.row := ⟨_, rfl⟩
  rw [← hq, ← hn, ← hx]
  obtain ⟨M, hM⟩ := mapEx
  try simp only [hM]
  refine go Try.func105 rfl rfl rfl rfl fun pAdd pSub pMul pQuo pRem pAnd pOr pXor pAndNot pShl pShr pNeg pCompl pConv pLt pLe pEq pSlt pSle pSeq pCat pCatOk pSlen pSsub pSat pIadd pIsub pBnot pBeq pImin pImax pLlen pLsub pLapp pLset pLcopy pLenOk pBytes pRep hF Ca hC r hr => ?_
  cbv
  refine loop_u (α := Nat × Nat × List (List Y)) (fun a st => ((st.n 5 (Int.ofNat a.1)).n 1 (Int.ofNat a.2.1)).ob 1 (.ar 2 a.2.2)) (fun a => a.1 ≤ l.length ∧ a.2.1 = k + 2 * a.1 ∧ a.2.2 = (marked (elRecordS k) l a.1).map Rcd.row) (fun a => l.length - a.1) (0, k, xs) rfl ⟨by omega, by dsimp only; omega, hx⟩ (fun K' hK I a hi ih => ?_)
  obtain ⟨i, k0, zs⟩ := a
  obtain ⟨hi, hk0, hz⟩ := hi
  dsimp only at hi hk0 hz
  have hzl : zs.length = l.length := by rw [hz, List.length_map, marked_len _ _ hi]
  cbv
  refine brkI (fun h => ?_) (fun h => ?_) <;> try cbv
  · have hs : i < l.length := hzl ▸ iltT hF h
    have e1 : pAdd .i64 (Int.ofNat i) 1 = Int.ofNat (i + 1) := add1Is hF (by omega)
    have hml : i < (marked (elRecordS k) l i).length := by rw [marked_len _ _ hi]; exact hs
    obtain ⟨u, hu⟩ : ∃ u, u = (marked (elRecordS k) l i)[i] := ⟨_, rfl⟩
    have hget : zs[i]? = some [yN u.seq, yS u.text] := row_get (row := Rcd.row) hz hml hu
    refine brT (zeroLe hF i) (brT (mkIlt hF (by omega)) ?_)
    refine lget (x := [yN u.seq, yS u.text]) hget ?_
    cbv
    obtain ⟨k1, hk1, ek1⟩ : ∃ z, z = k0 + 1 ∧ pAdd .i64 (Int.ofNat k0) 1 = Int.ofNat z := ⟨_, rfl, add1Is hF (by omega)⟩
    rw [ek1]
    refine callS hC (markText_ok k1 (by omega)) (fun t1 ht1 => ?_)
    cbv
    have hl1 : (pLset (zs) (Int.ofNat i) [yN (Int.ofNat k0), yS u.text]).length = l.length := by exact (lset_length hF _ _ _).trans hzl
    refine brT (zeroLe hF i) (brT (mkIlt hF (Nat.lt_of_lt_of_eq hs hl1.symm)) ?_)
    refine lget (x := [yN (Int.ofNat k0), yS u.text]) (lset_get hF (Nat.lt_of_lt_of_eq hs hzl.symm) _) ?_
    cbv
    obtain ⟨k2, hk2, ek2⟩ : ∃ z, z = k1 + 1 ∧ pAdd .i64 (Int.ofNat k1) 1 = Int.ofNat z := ⟨_, rfl, add1Is hF (by omega)⟩
    rw [ek2]
    conv => arg 1; cbv
    rw [e1]
    have eL : pLset (pLset (zs) (Int.ofNat i) [yN (Int.ofNat k0), yS u.text]) (Int.ofNat i) [yN (Int.ofNat k0), yS t1] = (marked (elRecordS k) l (i + 1)).map Rcd.row := by
      have ll : ∀ l x y, pLset (pLset l (Int.ofNat i) x) (Int.ofNat i) y = pLset l (Int.ofNat i) y := fun l x y => lset_lset hF l _ x y
      rw [ll]
      rw [← marked_set (elRecordS k) l hs, List.map_set, ← hz]
      have ee : Rcd.row (elRecordS k i) = [yN (Int.ofNat k0), yS t1] := by
        rw [Rcd.row, elRecordS]
        have kk : k0 = k + 2 * i + 0 ∧ k1 = k + 2 * i + 1 := by omega
        obtain ⟨r0, r1⟩ := kk
        rw [← r0, ← r1]
        rw [ht1]
        try rfl
      rw [ee]
      exact lsetIs hF ..
    rw [eL]
    exact ih (i + 1, k2, _) _ ⟨hs, by dsimp only; omega, rfl⟩ (by dsimp only; omega) rfl
  · have hs : i = l.length := Nat.le_antisymm hi (hzl ▸ iltF hF h)
    rw [hs] at hz hk0
    rw [marked_end] at hz
    have hz : zs = q := hz.trans hq.symm
    refine hK _ _ ?_
    cbv
    rw [hr, hz, hk0, hn]
theorem heldRecordS_ok (k m : Nat) (hl : m ≤ 4294967296) (hk : k ≤ 1152921504606846976) : CallOK Try.prog 106 [.c (.y (.sl 2 ((mkRecordS k m).map Rcd.row))), aN (Int.ofNat k)] (N (Int.ofNat (k + 2 * m))) := by
  obtain ⟨l, hll⟩ : ∃ l, l = mkRecordS k m := ⟨_, rfl⟩
  have hlm : l.length = m := by rw [hll, mkRecordS, List.length_map, List.length_range]
  obtain ⟨n, hn⟩ : ∃ n, n = k + 2 * m := ⟨_, rfl⟩
  obtain ⟨xs, hx⟩ : ∃ xs, xs = l.map Rcd.row := ⟨_, rfl⟩
  have hxl : xs.length = l.length := by rw [hx, List.length_map]
  rw [← hn, ← hll, ← hx]
  obtain ⟨M, hM⟩ := mapEx
  try simp only [hM]
  refine go Try.func106 rfl rfl rfl rfl fun pAdd pSub pMul pQuo pRem pAnd pOr pXor pAndNot pShl pShr pNeg pCompl pConv pLt pLe pEq pSlt pSle pSeq pCat pCatOk pSlen pSsub pSat pIadd pIsub pBnot pBeq pImin pImax pLlen pLsub pLapp pLset pLcopy pLenOk pBytes pRep hF Ca hC r hr => ?_
  cbv
  refine loop_u (α := Nat × Nat) (fun a st => ((st.n 5 (Int.ofNat a.1)).n 1 (Int.ofNat a.2))) (fun a => a.1 ≤ l.length ∧ a.2 = k + 2 * a.1) (fun a => l.length - a.1) (0, k) rfl ⟨by omega, by dsimp only; omega⟩ (fun K' hK I a hi ih => ?_)
  obtain ⟨i, k0⟩ := a
  obtain ⟨hi, hk0⟩ := hi
  dsimp only at hi hk0
  cbv
  refine brkI (fun h => ?_) (fun h => ?_) <;> try cbv
  · have hs : i < l.length := hxl ▸ iltT hF h
    have e1 : pAdd .i64 (Int.ofNat i) 1 = Int.ofNat (i + 1) := add1Is hF (by omega)
    refine lgetM (fun u => [yN u.seq, yS u.text]) (fun u => by simp only [Rcd.row, hM]) hx hs fun u hu => ?_
    cbv
    have hu' : u = elRecordS k i := by
      have : l[i] = elRecordS k i := by
        have hs' : i < (mkRecordS k m).length := hll ▸ hs
        have : (mkRecordS k m)[i] = elRecordS k i := by simp [mkRecordS]
        rw [← this]; congr 1
      rw [hu, this]
    have hv0 : u.seq = Int.ofNat k0 := by rw [hu', show k0 = k + 2 * i + 0 by omega]; rfl
    refine brkI (fun h => ?_) (fun h => ?_) <;> try cbv
    rotate_left
    · exact absurd hv0 (eqF hF h)
    all_goals obtain ⟨k1, hk1, ek1⟩ : ∃ z, z = k0 + 1 ∧ pAdd .i64 (Int.ofNat k0) 1 = Int.ofNat z := ⟨_, rfl, add1Is hF (by omega)⟩
    all_goals try rw [ek1]
    have hv1 : u.text = mt k1 := by rw [hu', show k1 = k + 2 * i + 1 by omega]; rfl
    refine lgetM (fun u => [yN u.seq, yS u.text]) (fun u => by simp only [Rcd.row, hM]) hx hs fun v11 hv11 => ?_
    rw [show v11 = u from hv11.trans hu.symm]
    cbv
    refine callS hC (markText_ok k1 (by omega)) (fun t1 ht1 => ?_)
    cbv
    refine brkI (fun h => ?_) (fun h => ?_) <;> try cbv
    rotate_left
    · exact absurd (hv1.trans ht1.symm) (seqF hF h)
    all_goals obtain ⟨k2, hk2, ek2⟩ : ∃ z, z = k1 + 1 ∧ pAdd .i64 (Int.ofNat k1) 1 = Int.ofNat z := ⟨_, rfl, add1Is hF (by omega)⟩
    all_goals try rw [ek2]
    all_goals conv => arg 1; cbv
    all_goals rw [e1]
    all_goals try rw [ek2]
    all_goals exact ih (i + 1, k2) _ ⟨hs, by dsimp only; omega⟩ (by dsimp only; omega) rfl
  · have hs : i = l.length := Nat.le_antisymm hi (hxl ▸ iltF hF h)
    refine hK _ _ ?_
    cbv
    rw [hr, hk0, hn, hs, hlm]
end Go.Proofs.Ytocjbababdlilaa
