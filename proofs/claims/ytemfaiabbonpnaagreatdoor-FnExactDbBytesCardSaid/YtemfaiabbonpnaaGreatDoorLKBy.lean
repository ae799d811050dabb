/- Functions of the program, each with what it returns, run by the evaluator; the conditions stand in the theorems. -/
import Derived.Test.YtemfaiabbonpnaaGreatDoorLBld3
namespace Go.Proofs.YtemfaiabbonpnaaGreatDoor
open Go Go.Proofs.YtemfaiabbonpnaaGreatDoorW Go.Proofs
set_option linter.unusedVariables false
set_option linter.unusedSimpArgs false
set_option maxRecDepth 100000
set_option maxHeartbeats 8000000
/-! KeyBytes -/
theorem shr_byte (U : Nat) {j : Nat} (h : j < 8) : lastByte (prims.shr .u64 (Int.ofNat U) (Int.ofNat (56 - 8 * j))) = UInt8.ofNat (U / 256 ^ (7 - j) % 256) := by
  have e : prims.shr .u64 (Int.ofNat U) (Int.ofNat (56 - 8 * j)) = Int.ofNat (U / 256 ^ (7 - j)) := by
    show (Int.ofNat U).fdiv (2 ^ min (Int.ofNat (56 - 8 * j)).toNat IntKind.u64.bits) = _
    have h1 : min (Int.ofNat (56 - 8 * j)).toNat IntKind.u64.bits = 56 - 8 * j := by
      show min (56 - 8 * j) 64 = _
      omega
    rw [h1]
    have h2 : (2 : Int) ^ (56 - 8 * j) = ((256 ^ (7 - j) : Nat) : Int) := by
      have : 56 - 8 * j = 8 * (7 - j) := by omega
      rw [this, Int.pow_mul, Int.natCast_pow]; rfl
    rw [h2]
    show Int.fdiv (U : Int) ((256 ^ (7 - j) : Nat) : Int) = _
    rw [Int.fdiv_eq_ediv_of_nonneg _ (Int.natCast_nonneg _)]; rfl
  rw [e, lastByte, conv_u8]
  have : (Int.ofNat (U / 256 ^ (7 - j)) % 256).toNat = U / 256 ^ (7 - j) % 256 := by
    obtain ⟨x, hx⟩ : ∃ x, x = U / 256 ^ (7 - j) := ⟨_, rfl⟩
    rw [← hx]; ((try simp only [Int.ofNat_eq_natCast] at *); omega)
  rw [this]
theorem beL_get (u : Nat) : ∀ (k j : Nat), j < k → (beL u k)[j]? = some (UInt8.ofNat (u / 256 ^ (k - 1 - j) % 256))
  | 0, _, h => by omega
  | k + 1, 0, _ => by rw [beL]; rfl
  | k + 1, j + 1, h => by
    rw [beL, List.getElem?_cons_succ, beL_get u k j (by omega), show k + 1 - 1 - (j + 1) = k - 1 - j by omega]
theorem beL_take (U : Nat) {j : Nat} (h : j < 8) : (beL U 8).take (j + 1) = (beL U 8).take j ++ [UInt8.ofNat (U / 256 ^ (7 - j) % 256)] := by
  have := beL_get U 8 j h
  rw [List.take_add_one, this]; rfl
theorem iKeyBytes_ok (l : List Val) (hl : l.length ≤ maxLen) (hi : Ints l) : CallOK Tryz.prog 28 [.c (.y (.sl 3 (l.map Val.row)))] (St (keyBytes l)) := by
  have hvr := iValuesRight_ok l hl
  obtain ⟨xs, hx⟩ : ∃ xs, xs = l.map Val.row := ⟨_, rfl⟩
  rw [← hx] at hvr ⊢
  obtain ⟨vr, hr0⟩ : ∃ b, b = valsRight l := ⟨_, rfl⟩
  rw [← hr0] at hvr
  obtain ⟨q, hq⟩ : ∃ q, q = keyBytes l := ⟨_, rfl⟩
  rw [← hq]
  have hxl : xs.length = l.length := by rw [hx, List.length_map]
  obtain ⟨M, hM⟩ := mapEx
  try simp only [hM]
  refine go Tryz.func28 rfl rfl rfl rfl fun pAdd pSub pMul pQuo pRem pAnd pOr pXor pAndNot pShl pShr pNeg pCompl pConv pLt pLe pEq pSlt pSle pSeq pCat pCatOk pSlen pSsub pSat pIadd pIsub pBnot pBeq pImin pImax pLlen pLsub pLapp pLset pLcopy pLenOk pBytes pRep hF Ca hC r hr => ?_
  cbv
  refine callB hC hvr (fun hb => ?_) (fun hb => ?_)
  rotate_left
  · cbv
    refine retS hr ?_
    rw [hq, keyBytes, ← hr0, hb]; rfl
  cbv
  have hv : valsRight l = true := hr0.symm.trans hb
  have hv' := hv
  have hf := fits hv hi
  have hl12 : l.length ≤ 12 := (valsRight_iff.1 hv).1
  have kq : q = ⟨⟨keyL l⟩⟩ := by rw [hq, keyBytes, hv]; rfl
  have hkl := keyL_len (valsRight_iff.1 hv).2
  have exl : pLlen xs = Int.ofNat l.length := by have e : pLlen xs = _ := llenIs hF xs; rw [e, hxl]; rfl
  rw [exl]
  obtain ⟨n, hn⟩ : ∃ n, n = l.length := ⟨_, rfl⟩
  rw [← hn]
  refine loop_u (α := Nat × List (List Y)) (fun (i, zs) st => (st.n 14 (Int.ofNat i)).ob 3001 (.ar 1 zs)) (fun x => x.1 ≤ n ∧ x.2 = bytesL (keyL (l.take x.1))) (fun x => n - x.1) (0, []) rfl ⟨Nat.zero_le _, rfl⟩ (fun K' hK I x hx' ih => ?_)
  obtain ⟨i, zs⟩ := x
  obtain ⟨hi', hzs⟩ := hx'
  dsimp only at hi' hzs
  cbv
  have hzl : zs.length ≤ 5000 := by
    rw [hzs, bytesL, List.length_map]
    have := keyL_len (l := l.take i) (fun v hv => (valsRight_iff.1 hv').2 v (List.mem_of_mem_take hv))
    have h2 : (l.take i).length ≤ 12 := by rw [List.length_take]; omega
    have h3 : 403 * (l.take i).length ≤ 403 * 12 := Nat.mul_le_mul_left _ h2
    omega
  refine brkI (fun h => ?_) (fun h => ?_) <;> try cbv
  · have h := ltT hF h
    have hs : i < l.length := by have := Int.ofNat_lt.1 h; rw [← hn]; exact this
    have e1 : pAdd .i64 (Int.ofNat i) 1 = Int.ofNat (i + 1) := add1Is hF (by omega)
    obtain ⟨u, hu⟩ : ∃ u, u = l[i] := ⟨_, rfl⟩
    have hget : xs[i]? = some [yN u.k, yN u.n, yS u.s] := by rw [hx, List.getElem?_map, List.getElem?_eq_getElem hs, hu]; rfl
    have hg2 : LGet xs (Int.ofNat i) [yN u.k, yN u.n, yS u.s] := ⟨Int.natCast_nonneg i, hget⟩
    refine Exists.intro [yN u.k, yN u.n, yS u.s] ?_
    cbv
    refine And.intro hg2 ?_
    clear hget hg2
    have hum : u ∈ l := hu ▸ List.getElem_mem hs
    have hur := (valsRight_iff.1 hv').2 u hum
    have htk : l.take (i + 1) = l.take i ++ [u] := by rw [List.take_succ_eq_append_getElem hs, hu]
    have hkt : keyL (l.take (i + 1)) = keyL (l.take i) ++ encV u := by rw [htk, keyL, List.flatMap_append]; simp [keyL]
    obtain ⟨acc, hacc⟩ : ∃ acc, acc = keyL (l.take i) := ⟨_, rfl⟩
    rw [← hacc] at hzs hkt
    have app : ∀ (zs : List (List Y)) (acc : List UInt8) (k : Int), zs = bytesL acc → pLapp zs [[.sc (.int .u8 (pConv .u8 k))]] = bytesL (acc ++ [lastByte k]) := fun zs acc k e => by
      have e1 : pConv .u8 k = ((lastByte k).toNat : Int) := by have := lastByte_is k; rw [hF] at this; exact this.symm
      have e2 : pLapp zs [[.sc (.int .u8 (pConv .u8 k))]] = zs ++ [[.sc (.int .u8 (pConv .u8 k))]] := lappIs hF _ _
      rw [e2, e, e1, bytesL, bytesL, List.map_append]; rfl
    have dneq : ∀ a b : Int, a ≠ b → pEq a b = false := fun a b h => mkNe hF h
    have deq : ∀ a : Int, pEq a a = true := fun a => mkEq hF rfl
    have lok : ∀ zs ys : List (List Y), zs.length ≤ 6000 → ys.length ≤ 6000 → pLenOk (pIadd (pLlen zs) (pLlen ys)) = true := fun zs ys hz hy => lenOkIs hF (by
      have a1 : pLlen zs = _ := llenIs hF zs
      have a2 : pLlen ys = _ := llenIs hF ys
      have a3 : ∀ a b, pIadd a b = a + b := fun a b => by cases hF; rfl
      rw [a1, a2, a3]; omega)
    have hz1 : pLapp zs [[.sc (.int .u8 (pConv .u8 u.k))]] = bytesL (acc ++ [lastByte u.k]) := app zs acc u.k hzs
    refine brT (lok _ _ (by omega) (by simp)) ?_
    obtain ⟨z1, hz1'⟩ : ∃ z, z = pLapp zs [[.sc (.int .u8 (pConv .u8 u.k))]] := ⟨_, rfl⟩
    rw [← hz1'] at hz1 ⊢
    have hl1 : z1.length ≤ 5001 := by
      rw [hz1, bytesL, List.length_map, List.length_append]
      rw [hzs, bytesL, List.length_map] at hzl
      simp; omega
    rcases right_is hur with e | ⟨m, hm, e⟩ | ⟨m, e⟩ | ⟨t, ht, e⟩
    · have k0 : u.k = 0 := by rw [e]
      have k1 : pEq u.k 1 = false := dneq _ _ (by rw [k0]; decide)
      have k2 : pEq u.k 2 = false := dneq _ _ (by rw [k0]; decide)
      have k3 : pEq u.k 3 = false := dneq _ _ (by rw [k0]; decide)
      refine brF k1 ?_
      try cbv
      refine brF k2 ?_
      try cbv
      refine brF k3 ?_
      try cbv
      conv => arg 1; cbv
      rw [e1]
      refine ih (i + 1, z1) _ ⟨by dsimp only; omega, ?_⟩ (by dsimp only; omega) rfl
      dsimp only
      rw [hz1, hkt, encV, bodyV, k0]; rfl
    · have k0 : u.k = 1 := by rw [e]
      refine brT (mkEq hF k0) ?_
      try cbv
      refine brT (lok _ _ (by omega) (by simp)) ?_
      try cbv
      conv => arg 1; cbv
      have hz2 : pLapp z1 [[.sc (.int .u8 (pConv .u8 u.n))]] = bytesL ((acc ++ [lastByte u.k]) ++ [lastByte u.n]) := app z1 _ u.n hz1
      rw [e1]
      refine ih (i + 1, _) _ ⟨by dsimp only; omega, ?_⟩ (by dsimp only; omega) rfl
      dsimp only
      rw [hz2, hkt, encV, bodyV, k0, if_pos rfl, List.append_assoc]; rfl
    · have k0 : u.k = 2 := by rw [e]
      have k1 : pEq u.k 1 = false := dneq _ _ (by rw [k0]; decide)
      have k2 : pEq u.k 2 = true := mkEq hF k0
      refine brF k1 ?_
      try cbv
      refine brT k2 ?_
      try cbv
      have hturn : pXor .u64 (pConv .u64 u.n) 9223372036854775808 = Int.ofNat (uOf u.n) := by
        have h := turn_is (hf u hum).i64
        have e1 : pXor .u64 (pConv .u64 u.n) 9223372036854775808 = prims.xor .u64 (prims.conv .u64 u.n) 9223372036854775808 := by cases hF; rfl
        rw [e1, h]
      rw [hturn]
      obtain ⟨U, hU⟩ : ∃ U, U = uOf u.n := ⟨_, rfl⟩
      rw [← hU]
      have hz2 : z1 = bytesL ((acc ++ [lastByte u.k]) ++ (beL U 8).take 0) := by rw [hz1, List.take_zero, List.append_nil]
      refine loop_u (α := Nat × Int × List (List Y)) (fun (j, sh, zs) st => (st.n 7 sh).ob 3001 (.ar 1 zs)) (fun x => x.1 ≤ 8 ∧ x.2.1 = 56 - 8 * Int.ofNat x.1 ∧ x.2.2 = bytesL ((acc ++ [lastByte u.k]) ++ (beL U 8).take x.1)) (fun x => 8 - x.1) (0, 56, z1) rfl ⟨Nat.zero_le _, rfl, hz2⟩ (fun K2 hK2 J y hy jh => ?_)
      obtain ⟨j, sh, ys⟩ := y
      obtain ⟨hj, hsh, hys⟩ := hy
      dsimp only at hj hsh hys
      cbv
      have hyl : ys.length ≤ 5600 := by
        rw [hys, bytesL, List.length_map, List.length_append, List.length_take]
        rw [hz1, bytesL, List.length_map] at hl1
        omega
      refine brkI (fun h => ?_) (fun h => ?_) <;> try cbv
      · have hsp := leT hF h
        have hj8 : j < 8 := by ((try simp only [Int.ofNat_eq_natCast] at *); omega)
        have hs1 : sh = Int.ofNat (56 - 8 * j) := by ((try simp only [Int.ofNat_eq_natCast] at *); omega)
        refine brF (mkNlt hF (by ((try simp only [Int.ofNat_eq_natCast] at *); omega))) ?_
        try cbv
        refine brT (lok _ _ (by omega) (by simp)) ?_
        try cbv
        have e2 : pSub .i64 sh 8 = 56 - 8 * Int.ofNat (j + 1) := by
          have : pSub .i64 sh 8 = sh - 8 := subIs hF (by ((try simp only [Int.ofNat_eq_natCast] at *); omega)) (by ((try simp only [Int.ofNat_eq_natCast] at *); omega))
          rw [this]; ((try simp only [Int.ofNat_eq_natCast] at *); omega)
        have hz3 := app ys _ (pShr .u64 (Int.ofNat U) sh) hys
        have hb : lastByte (pShr .u64 (Int.ofNat U) sh) = UInt8.ofNat (U / 256 ^ (7 - j) % 256) := by
          have : pShr .u64 (Int.ofNat U) sh = prims.shr .u64 (Int.ofNat U) (Int.ofNat (56 - 8 * j)) := by rw [hs1]; cases hF; rfl
          rw [this]; exact shr_byte U hj8
        conv => arg 1; cbv
        refine jh (j + 1, _, _) _ ⟨by dsimp only; omega, e2, ?_⟩ (by dsimp only; omega) rfl
        dsimp only
        rw [hz3, hb, beL_take U hj8, List.append_assoc _ _ [UInt8.ofNat _]]
      · have hsp := leF hF h
        have hj8 : j = 8 := by ((try simp only [Int.ofNat_eq_natCast] at *); omega)
        refine hK2 _ _ ?_
        cbv
        conv => arg 1; cbv
        rw [e1]
        refine ih (i + 1, ys) _ ⟨by dsimp only; omega, ?_⟩ (by dsimp only; omega) rfl
        dsimp only
        rw [hys, hkt, encV, bodyV, if_neg (by rw [k0]; decide), if_pos k0, hj8, ← hU, List.take_of_length_le (by rw [beL_len]; exact Nat.le_refl _), List.append_assoc]; rfl
    · have k0 : u.k = 3 := by rw [e]
      have hus : u.s.size ≤ 200 := by rw [e]; exact ht
      have k1 : pEq u.k 1 = false := dneq _ _ (by rw [k0]; decide)
      have k2 : pEq u.k 2 = false := dneq _ _ (by rw [k0]; decide)
      have k3 : pEq u.k 3 = true := mkEq hF k0
      refine brF k1 ?_
      try cbv
      refine brF k2 ?_
      try cbv
      refine brT k3 ?_
      try cbv
      have hrep := replaceAll_ok u.s (by omega)
      obtain ⟨t', ht'⟩ : ∃ t' : ByteArray, t' = ⟨⟨esc u.s.data.toList⟩⟩ := ⟨_, rfl⟩
      rw [← ht'] at hrep
      have htl : t'.data.toList = esc u.s.data.toList := by rw [ht']
      have hpb : pBytes t' = bytesL (esc u.s.data.toList) := by rw [← htl]; cases hF; rfl
      have hel := esc_len u.s.data.toList
      have hsl : u.s.data.toList.length = u.s.size := rfl
      refine callI hC hrep ?_
      try cbv
      refine brT (lok _ _ (by omega) (by rw [hpb, bytesL, List.length_map]; omega)) ?_
      try cbv
      have hz2 : pLapp z1 (pBytes t') = bytesL ((acc ++ [lastByte u.k]) ++ esc u.s.data.toList) := by
        have : pLapp z1 (pBytes t') = z1 ++ pBytes t' := lappIs hF _ _
        rw [this, hz1, hpb, bytesL, bytesL, bytesL, ← List.map_append]
      obtain ⟨z2, hz2'⟩ : ∃ z, z = pLapp z1 (pBytes t') := ⟨_, rfl⟩
      rw [← hz2'] at hz2 ⊢
      have hl2 : z2.length ≤ 5500 := by
        rw [hz2, bytesL, List.length_map, List.length_append]
        rw [hz1, bytesL, List.length_map] at hl1
        omega
      refine brT (lok _ _ (by omega) (by simp)) ?_
      try cbv
      have hz3 : pLapp z2 [[.sc (.int .u8 0)], [.sc (.int .u8 0)]] = bytesL (((acc ++ [lastByte u.k]) ++ esc u.s.data.toList) ++ [0, 0]) := by
        have : pLapp z2 [[.sc (.int .u8 0)], [.sc (.int .u8 0)]] = z2 ++ [[.sc (.int .u8 0)], [.sc (.int .u8 0)]] := lappIs hF _ _
        rw [this, hz2]; simp only [bytesL, List.map_append]; rfl
      conv => arg 1; cbv
      rw [e1]
      refine ih (i + 1, _) _ ⟨by dsimp only; omega, ?_⟩ (by dsimp only; omega) rfl
      dsimp only
      rw [hz3, hkt, encV, bodyV, if_neg (by rw [k0]; decide), if_neg (by rw [k0]; decide), if_pos k0]; simp
  · have h := ltF hF h
    have hin : i = l.length := by ((try simp only [Int.ofNat_eq_natCast] at *); omega)
    refine hK _ _ ?_
    cbv
    refine ⟨q, ⟨by rw [hzs, hin, List.take_length, kq]⟩, ?_⟩
    cbv
    exact retS hr rfl
end Go.Proofs.YtemfaiabbonpnaaGreatDoor
