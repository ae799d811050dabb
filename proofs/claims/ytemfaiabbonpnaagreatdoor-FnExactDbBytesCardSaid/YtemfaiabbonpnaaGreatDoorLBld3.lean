/- Functions of the program, each with what it returns, run by the evaluator; the conditions stand in the theorems. -/
import Derived.Test.YtemfaiabbonpnaaGreatDoorLBld2
namespace Go.Proofs.YtemfaiabbonpnaaGreatDoor
open Go Go.Proofs.YtemfaiabbonpnaaGreatDoorW Go.Proofs
set_option linter.unusedVariables false
set_option linter.unusedSimpArgs false
set_option maxRecDepth 100000
set_option maxHeartbeats 8000000
theorem ssubIs {F : Prims} (hF : prims = F) (s : ByteArray) (a b : Nat) : F.ssub s (Int.ofNat a) (Int.ofNat b) = ⟨⟨(s.data.toList.drop a).take (b - a)⟩⟩ := by
  subst hF
  show s.extract a b = _
  have e : (s.extract a b).data = ⟨(s.data.toList.drop a).take (b - a)⟩ := by
    rw [ByteArray.data_extract]
    apply Array.toList_inj.1
    rw [Array.toList_extract]
  cases h : s.extract a b with
  | mk d => rw [h] at e; exact congrArg ByteArray.mk e
theorem esc_ge : ∀ l : List UInt8, l.length ≤ (esc l).length
  | [] => Nat.le_refl _
  | x :: l => by
    have := esc_ge l
    rw [esc]; split <;> simp only [List.length_cons] <;> omega
theorem ws_at {s t v : ByteArray} {m : Int} (hv : v = s ++ t) (hm : m = (t.size : Int)) (h : s.size + t.size ≤ 140737488355328) :
    CallOK Tryz.prog 24 [.iop (.bd 66 5 s), aS t] ⟨.tup [(false, [.y (.sc (.int .i64 m))]), (false, [.no])], [[.op (.bd 66 5 v)]]⟩ := by
  subst hv hm; exact ws_ok s t h
theorem replace_ok (s : ByteArray) (hs : s.size ≤ 1000000) : CallOK Tryz.prog 88 [aS s, aS z1, aS zf, aN (-1)] (St ⟨⟨esc s.data.toList⟩⟩) := by
  have hcnt := count_ok s
  have hix := indexz_ok
  obtain ⟨q, hq⟩ : ∃ q : ByteArray, q = ⟨⟨esc s.data.toList⟩⟩ := ⟨_, rfl⟩
  rw [← hq]
  obtain ⟨n, hn⟩ : ∃ n, n = s.data.toList.count 0 := ⟨_, rfl⟩
  rw [← hn] at hcnt
  have hns : n ≤ s.size := by rw [hn]; exact List.count_le_length
  obtain ⟨z, hz⟩ : ∃ z, z = z1 := ⟨_, rfl⟩
  obtain ⟨f, hf⟩ : ∃ f, f = zf := ⟨_, rfl⟩
  rw [← hz] at hcnt hix ⊢
  rw [← hf]
  have z_1 : z.size = 1 := by rw [hz]; rfl
  have f_1 : f.size = 2 := by rw [hf]; rfl
  obtain ⟨sz, hsz⟩ : ∃ sz, sz = s.size := ⟨_, rfl⟩
  rw [← hsz] at hns hs
  obtain ⟨N, hN⟩ : ∃ N, N = Int.ofNat (sz + n) := ⟨_, rfl⟩
  have hg : CallOK Tryz.prog 117 [.iop (.bd 66 5 ⟨#[]⟩), aN N] ⟨.tup [], [[.op (.bd 66 5 ⟨#[]⟩)]]⟩ := by rw [hN]; exact grow_ok _ (by omega)
  have hne : z ≠ f := fun e => by rw [e] at z_1; omega
  obtain ⟨M, hM⟩ := mapEx
  try simp only [hM]
  refine go Tryz.func88 rfl rfl rfl rfl fun pAdd pSub pMul pQuo pRem pAnd pOr pXor pAndNot pShl pShr pNeg pCompl pConv pLt pLe pEq pSlt pSle pSeq pCat pCatOk pSlen pSsub pSat pIadd pIsub pBnot pBeq pImin pImax pLlen pLsub pLapp pLset pLcopy pLenOk pBytes pRep hF Ca hC r hr => ?_
  cbv
  refine brF (mkNseq hF hne) ?_
  try cbv
  refine brF (mkNe hF (by decide)) ?_
  try cbv
  refine callI hC hcnt ?_
  try cbv
  refine brkI (fun h => ?_) (fun h => ?_) <;> try cbv
  · have h := eqT hF h
    refine retS hr ?_
    have : n = 0 := by ((try simp only [Int.ofNat_eq_natCast] at *); omega)
    rw [hq]
    have e : esc s.data.toList = s.data.toList := esc_no (by omega)
    rw [e]
  have h := eqF hF h
  refine brT (mkLt hF (by decide)) ?_
  try cbv
  have hn1 : 0 < n := by
    have h' : ¬ Int.ofNat n = 0 := h
    ((try simp only [Int.ofNat_eq_natCast] at *); omega)
  have el : pSlen s = Int.ofNat sz := by rw [hsz]; exact slenIs hF s
  have ef : pSlen f = 2 := by have := slenIs hF f; rw [f_1] at this; exact this
  have ez : pSlen z = 1 := by have := slenIs hF z; rw [z_1] at this; exact this
  have e1 : pSub .i64 2 1 = 1 := by have := subIs hF (a := 2) (b := 1) (by decide) (by decide); exact this
  have e2 : pMul .i64 (Int.ofNat n) 1 = Int.ofNat n := by have := mulIs hF (a := Int.ofNat n) (b := 1) (by ((try simp only [Int.ofNat_eq_natCast] at *); omega)) (by ((try simp only [Int.ofNat_eq_natCast] at *); omega)); rw [Int.mul_one] at this; exact this
  have e3 : pAdd .i64 (Int.ofNat sz) (Int.ofNat n) = N := by rw [hN]; exact addNIs hF (by omega)
  rw [el, ef, ez, e1, e2, e3]
  refine callI hC hg ?_
  try cbv
  rw [ez]
  refine brT (mkLt hF (by decide)) ?_
  try cbv
  refine loop_u (α := Nat × Nat × ByteArray) (fun (i, a, u) st => ((st.n 53 (Int.ofNat i)).n 11 (Int.ofNat a)).ob 10000 (.op (.bd 66 5 u))) (fun x => x.2.1 ≤ sz ∧ x.1 + (s.data.toList.drop x.2.1).count 0 = n ∧ x.2.2.data.toList = esc (s.data.toList.take x.2.1)) (fun x => n - x.1) (0, 0, ⟨#[]⟩) rfl ⟨Nat.zero_le _, by rw [hn]; simp, rfl⟩ (fun K' hK I x hi ih => ?_)
  obtain ⟨i, a, u⟩ := x
  obtain ⟨i1, i2, i3⟩ := hi
  dsimp only at i1 i2 i3
  cbv
  have hL : s.data.toList.length = sz := by rw [hsz, Array.length_toList]; rfl
  have hdl : (s.data.toList.drop a).length = sz - a := by rw [List.length_drop, hL]
  have hus : u.size = (esc (s.data.toList.take a)).length := by rw [← i3, Array.length_toList]; rfl
  have hul : u.size ≤ 2 * sz := by
    rw [hus]
    have := esc_len (s.data.toList.take a)
    rw [List.length_take] at this
    omega
  obtain ⟨t1, ht1⟩ : ∃ t1 : ByteArray, t1 = ⟨⟨s.data.toList.drop a⟩⟩ := ⟨_, rfl⟩
  have es1 : pSsub s (Int.ofNat a) (Int.ofNat sz) = t1 := by
    rw [ht1]
    have := ssubIs hF s a sz
    rw [List.take_of_length_le (by omega)] at this
    exact this
  refine brkI (fun h => ?_) (fun h => ?_) <;> try cbv
  · have h := ltT hF h
    have hin : i < n := by ((try simp only [Int.ofNat_eq_natCast] at *); omega)
    obtain ⟨b, r', hbr, hb0, hr0⟩ := split0 (l := s.data.toList.drop a) (by omega)
    have hfi : firstIdx t1 (0 : Int).toNat.toUInt8 = Int.ofNat b.length := fi_split (r := r') (by rw [ht1]; exact hbr) hb0
    have hx := hix t1
    rw [hfi] at hx
    obtain ⟨k, hk⟩ : ∃ k, k = b.length := ⟨_, rfl⟩
    rw [← hk] at hx
    rw [el]
    try cbv
    have hbl : b.length + (r'.length + 1) = sz - a := by rw [← hdl, hbr, List.length_append, List.length_cons]
    refine brT (mkLe hF (by ((try simp only [Int.ofNat_eq_natCast] at *); omega))) (brT (mkLe hF (by ((try simp only [Int.ofNat_eq_natCast] at *); omega))) ?_)
    rw [es1]
    refine callI hC hx ?_
    try cbv
    have ek : pAdd .i64 (Int.ofNat a) (Int.ofNat k) = Int.ofNat (a + k) := addNIs hF (by omega)
    rw [ek]
    obtain ⟨ak, hak⟩ : ∃ ak, ak = a + k := ⟨_, rfl⟩
    rw [← hak]
    refine brT (mkLe hF (by ((try simp only [Int.ofNat_eq_natCast] at *); omega))) (brT (mkLe hF (by ((try simp only [Int.ofNat_eq_natCast] at *); omega))) (brT (mkLe hF (by ((try simp only [Int.ofNat_eq_natCast] at *); omega))) ?_))
    obtain ⟨bt, hbt⟩ : ∃ bt : ByteArray, bt = ⟨⟨b⟩⟩ := ⟨_, rfl⟩
    have es2 : pSsub s (Int.ofNat a) (Int.ofNat ak) = bt := by
      have e : pSsub s (Int.ofNat a) (Int.ofNat ak) = _ := ssubIs hF s a ak
      rw [e, hbt, hbr, hak, show a + k - a = b.length by omega, List.take_left]
    rw [es2]
    have hbs : bt.size = k := by rw [hbt, hk]; rfl
    obtain ⟨u1, hu1⟩ : ∃ u1, u1 = u ++ bt := ⟨_, rfl⟩
    have hu1s : u1.size = u.size + k := by rw [hu1, ByteArray.size_append, hbs]
    obtain ⟨u2, hu2⟩ : ∃ u2, u2 = u1 ++ f := ⟨_, rfl⟩
    obtain ⟨m1, hm1⟩ : ∃ m1 : Int, m1 = (bt.size : Int) := ⟨_, rfl⟩
    obtain ⟨m2, hm2⟩ : ∃ m2 : Int, m2 = (f.size : Int) := ⟨_, rfl⟩
    have hw1 := ws_at hu1 hm1 (by omega)
    have hw2 := ws_at hu2 hm2 (by omega)
    clear hm1 hm2
    refine callI hC hw1 ?_
    try cbv
    refine callI hC hw2 ?_
    try cbv
    rw [ez]
    have e1 : pAdd .i64 (Int.ofNat ak) 1 = Int.ofNat (ak + 1) := add1Is hF (by omega)
    have e2 : pAdd .i64 (Int.ofNat i) 1 = Int.ofNat (i + 1) := add1Is hF (by omega)
    rw [e1, e2]
    have d1 : s.data.toList.drop (ak + 1) = r' := by
      rw [hak, show a + k + 1 = a + (b.length + 1) by omega, ← List.drop_drop, hbr, List.drop_append]
      simp
    have d2 : s.data.toList.take (ak + 1) = s.data.toList.take a ++ (b ++ [0]) := by
      rw [hak, show a + k + 1 = a + (b.length + 1) by omega, List.take_add, hbr, List.take_append]
      simp [List.take_of_length_le (show b.length ≤ b.length + 1 by omega)]
    have d3 : u2.data.toList = esc (s.data.toList.take (ak + 1)) := by
      rw [d2, esc_app, esc_app, esc_no hb0, ← i3, hu2, hu1, hbt, hf]
      simp [ByteArray.data_append, zf, esc]
    conv => arg 1; cbv
    exact ih (i + 1, ak + 1, u2) _ ⟨by dsimp only; omega, by dsimp only; rw [d1]; omega, d3⟩ (by dsimp only; omega) rfl
  · have h := ltF hF h
    have hin : i = n := by ((try simp only [Int.ofNat_eq_natCast] at *); omega)
    have hz0 : (s.data.toList.drop a).count 0 = 0 := by omega
    refine hK _ _ ?_
    cbv
    rw [el]
    refine brT (mkLe hF (by ((try simp only [Int.ofNat_eq_natCast] at *); omega))) (brT (mkLe hF (by ((try simp only [Int.ofNat_eq_natCast] at *); omega))) ?_)
    rw [es1]
    obtain ⟨u1, hu1⟩ : ∃ u1, u1 = u ++ t1 := ⟨_, rfl⟩
    obtain ⟨m1, hm1⟩ : ∃ m1 : Int, m1 = (t1.size : Int) := ⟨_, rfl⟩
    have hts : t1.size = sz - a := by rw [ht1, ← hdl]; rfl
    have hw1 := ws_at hu1 hm1 (by omega)
    clear hm1
    have hu : u1 = q := by
      have e : u1.data.toList = esc s.data.toList := by
        rw [hu1, ByteArray.data_append, Array.toList_append, i3, ht1]
        show _ ++ s.data.toList.drop a = _
        have := esc_app (s.data.toList.take a) (s.data.toList.drop a)
        rw [List.take_append_drop, esc_no hz0] at this
        exact this.symm
      rw [hq, ← e]
    have hus : u1.size ≠ 0 := by
      rw [hu, hq]
      show (esc s.data.toList).length ≠ 0
      have := esc_ge s.data.toList
      omega
    have hst := bstr_ok u1 hus
    refine callI hC hw1 ?_
    try cbv
    refine callI hC hst ?_
    try cbv
    exact retS hr hu.symm
theorem replaceAll_ok (s : ByteArray) (hs : s.size ≤ 1000000) : CallOK Tryz.prog 57 [aS s, aS z1, aS zf] (St ⟨⟨esc s.data.toList⟩⟩) := by
  have h := replace_ok s hs
  obtain ⟨q, hq⟩ : ∃ q : ByteArray, q = ⟨⟨esc s.data.toList⟩⟩ := ⟨_, rfl⟩
  rw [← hq] at h ⊢
  obtain ⟨z, hz⟩ : ∃ z, z = z1 := ⟨_, rfl⟩
  obtain ⟨f, hf⟩ : ∃ f, f = zf := ⟨_, rfl⟩
  rw [← hz, ← hf] at h ⊢
  obtain ⟨M, hM⟩ := mapEx
  try simp only [hM]
  refine go Tryz.func57 rfl rfl rfl rfl fun pAdd pSub pMul pQuo pRem pAnd pOr pXor pAndNot pShl pShr pNeg pCompl pConv pLt pLe pEq pSlt pSle pSeq pCat pCatOk pSlen pSsub pSat pIadd pIsub pBnot pBeq pImin pImax pLlen pLsub pLapp pLset pLcopy pLenOk pBytes pRep hF Ca hC r hr => ?_
  cbv
  refine callI hC h ?_
  cbv
  exact retS hr rfl
end Go.Proofs.YtemfaiabbonpnaaGreatDoor
