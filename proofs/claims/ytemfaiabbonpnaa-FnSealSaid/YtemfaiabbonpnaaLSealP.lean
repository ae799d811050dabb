/- Functions of the program, each with what it returns, run by the evaluator; the conditions stand in the theorems. -/
import Derived.Test.YtemfaiabbonpnaaLBytes
namespace Go.Proofs.Ytemfaiabbonpnaa
open Go Go.Proofs.YtemfaiabbonpnaaW Go.Proofs
set_option linter.unusedVariables false
set_option linter.unusedSimpArgs false
set_option maxRecDepth 100000
set_option maxHeartbeats 8000000
/-! The register by numbers: a byte turned turns it. -/
theorem wrapU32 (n : Nat) (h : n < 4294967296) : IntKind.u32.wrap (n : Int) = Int.ofNat n := by
  unfold IntKind.wrap
  simp only [IntKind.bits, IntKind.signed, Bool.false_and]
  show (n : Int) % 4294967296 = _
  exact Int.emod_eq_of_lt (by omega) (by omega)
theorem ofIntN (n : Nat) : BitVec.ofInt 32 (Int.ofNat n) = BitVec.ofNat 32 n := BitVec.ofInt_natCast 32 n
theorem xorN {a b : Nat} (ha : a < 4294967296) (hb : b < 4294967296) : prims.xor .u32 (Int.ofNat a) (Int.ofNat b) = Int.ofNat (a ^^^ b) := by
  show IntKind.u32.wrap ((BitVec.ofInt 32 (Int.ofNat a) ^^^ BitVec.ofInt 32 (Int.ofNat b)).toNat : Int) = _
  rw [ofIntN, ofIntN, BitVec.toNat_xor, BitVec.toNat_ofNat, BitVec.toNat_ofNat, Nat.mod_eq_of_lt ha, Nat.mod_eq_of_lt hb]
  exact wrapU32 _ (Nat.xor_lt_two_pow (n := 32) ha hb)
theorem andN {a : Nat} (ha : a < 4294967296) : prims.and .u32 (Int.ofNat a) 1 = Int.ofNat (a % 2) := by
  show IntKind.u32.wrap ((BitVec.ofInt 32 (Int.ofNat a) &&& BitVec.ofInt 32 (Int.ofNat 1)).toNat : Int) = _
  rw [ofIntN, ofIntN, BitVec.toNat_and, BitVec.toNat_ofNat, BitVec.toNat_ofNat, Nat.mod_eq_of_lt ha, Nat.and_one_is_mod]
  exact wrapU32 _ (by omega)
theorem shrG (k : IntKind) (a : Nat) (b : Int) (p : Nat) (h : (2 : Int) ^ min b.toNat k.bits = (p : Int)) : prims.shr k (Int.ofNat a) b = Int.ofNat (a / p) := by
  show (Int.ofNat a).fdiv (2 ^ min b.toNat k.bits) = _
  rw [h, Int.fdiv_eq_ediv_of_nonneg _ (Int.natCast_nonneg _)]; rfl
theorem shrN (a : Nat) : prims.shr .u32 (Int.ofNat a) 1 = Int.ofNat (a / 2) := shrG .u32 a 1 2 rfl
theorem convU32N {a : Nat} (ha : a < 4294967296) : prims.conv .u32 (Int.ofNat a) = Int.ofNat a := wrapU32 a ha
theorem convI64N {a : Nat} (ha : a < 4294967296) : prims.conv .i64 (Int.ofNat a) = Int.ofNat a := wrap_i64 (by ((try simp only [Int.ofNat_eq_natCast] at *); omega)) (by ((try simp only [Int.ofNat_eq_natCast] at *); omega))
theorem xorR {a b c : Nat} (h : a ^^^ c = b ^^^ c) : a = b := by
  have := congrArg (· ^^^ c) h
  simpa [Nat.xor_assoc] using this
theorem xorLc {a b c : Nat} (h : c ^^^ a = c ^^^ b) : a = b := by rw [Nat.xor_comm c a, Nat.xor_comm c b] at h; exact xorR h
def bitN (n : Nat) : Nat := if n % 2 = 1 then (n / 2) ^^^ 3988292384 else n / 2
theorem bitN_lt {n : Nat} (h : n < 4294967296) : bitN n < 4294967296 := by
  rw [bitN]; split
  · exact Nat.xor_lt_two_pow (n := 32) (by omega) (by decide)
  · omega
theorem regBitN {n : Nat} (h : n < 4294967296) : regBit (Int.ofNat n) = Int.ofNat (bitN n) := by
  rw [regBit, andN h, shrN, bitN]
  by_cases h1 : n % 2 = 1
  · rw [h1, if_pos rfl, ite_t (show prims.eq (Int.ofNat 1) 1 = true from rfl), show (3988292384 : Int) = Int.ofNat 3988292384 from rfl, xorN (by omega) (by decide)]
  · rw [show n % 2 = 0 by omega, ite_f (show prims.eq (Int.ofNat 0) 1 = false from rfl)]; rfl
theorem bitN_inj {a b : Nat} (ha : a < 4294967296) (hb : b < 4294967296) (h : bitN a = bitN b) : a = b := by
  have top : ∀ q r : Nat, q < 2147483648 → r < 2147483648 → q ≠ r ^^^ 3988292384 := fun q r hq hr e => by
    have h1 : q.testBit 31 = false := Nat.testBit_lt_two_pow (by omega)
    have h2 : r.testBit 31 = false := Nat.testBit_lt_two_pow (by omega)
    rw [e, Nat.testBit_xor, h2] at h1
    exact absurd h1 (by decide)
  rw [bitN, bitN] at h
  split at h <;> split at h
  · have : a / 2 = b / 2 := xorR h
    omega
  · exact absurd h.symm (top _ _ (by omega) (by omega))
  · exact absurd h (top _ _ (by omega) (by omega))
  · omega
def bitsN (n : Nat) : Nat → Nat
  | 0 => n
  | k + 1 => bitN (bitsN n k)
theorem bitsN_lt {n : Nat} (h : n < 4294967296) : ∀ k, bitsN n k < 4294967296
  | 0 => h
  | k + 1 => bitN_lt (bitsN_lt h k)
theorem regBitsN {n : Nat} (h : n < 4294967296) : ∀ k, regBits (Int.ofNat n) k = Int.ofNat (bitsN n k)
  | 0 => rfl
  | k + 1 => by rw [regBits, regBitsN h k, regBitN (bitsN_lt h k)]; rfl
theorem bitsN_inj {a b : Nat} (ha : a < 4294967296) (hb : b < 4294967296) : ∀ k, bitsN a k = bitsN b k → a = b
  | 0, h => h
  | k + 1, h => bitsN_inj ha hb k (bitN_inj (bitsN_lt ha k) (bitsN_lt hb k) h)
def byteR (n : Nat) (c : UInt8) : Nat := bitsN (n ^^^ c.toNat) 8
theorem byteR_lt {n : Nat} (h : n < 4294967296) (c : UInt8) : byteR n c < 4294967296 := bitsN_lt (Nat.xor_lt_two_pow (n := 32) h (by have := c.toNat_lt; omega)) 8
theorem byteR_inj1 {a b : Nat} (ha : a < 4294967296) (hb : b < 4294967296) (c : UInt8) (h : byteR a c = byteR b c) : a = b := by
  have hc : c.toNat < 4294967296 := by have := c.toNat_lt; omega
  exact xorR (bitsN_inj (Nat.xor_lt_two_pow (n := 32) ha hc) (Nat.xor_lt_two_pow (n := 32) hb hc) 8 h)
theorem byteR_inj2 {a : Nat} (ha : a < 4294967296) (c e : UInt8) (h : byteR a c = byteR a e) : c = e := by
  have hc : c.toNat < 4294967296 := by have := c.toNat_lt; omega
  have he : e.toNat < 4294967296 := by have := e.toNat_lt; omega
  exact UInt8.toNat_inj.1 (xorLc (bitsN_inj (Nat.xor_lt_two_pow (n := 32) ha hc) (Nat.xor_lt_two_pow (n := 32) ha he) 8 h))
def regL (n : Nat) (l : List UInt8) : Nat := l.foldl byteR n
theorem regL_lt : ∀ {n : Nat} (l : List UInt8), n < 4294967296 → regL n l < 4294967296
  | _, [], h => h
  | n, c :: l, h => regL_lt l (byteR_lt h c)
theorem regL_app (n : Nat) (a b : List UInt8) : regL n (a ++ b) = regL (regL n a) b := List.foldl_append
theorem regL_inj : ∀ {a b : Nat} (l : List UInt8), a < 4294967296 → b < 4294967296 → regL a l = regL b l → a = b
  | _, _, [], _, _, h => h
  | a, b, c :: l, ha, hb, h => byteR_inj1 ha hb c (regL_inj l (byteR_lt ha c) (byteR_lt hb c) h)
/-- One byte turned. -/
theorem regL_set {n : Nat} (h : n < 4294967296) (l : List UInt8) (i : Nat) (hi : i < l.length) (x : UInt8) (hx : x ≠ l[i]) : regL n (l.set i x) ≠ regL n l := fun e => by
  have e1 : l = l.take i ++ l[i] :: l.drop (i + 1) := by rw [List.getElem_cons_drop, List.take_append_drop]
  have e2 : l.set i x = l.take i ++ x :: l.drop (i + 1) := by rw [List.set_eq_take_append_cons_drop, if_pos hi]
  rw [e2, regL_app] at e
  conv at e => rhs; rw [e1, regL_app]
  have h1 := regL_lt (l.take i) h
  have := regL_inj (l.drop (i + 1)) (byteR_lt h1 x) (byteR_lt h1 l[i]) e
  exact hx (byteR_inj2 h1 _ _ this)
theorem satN (s : ByteArray) (i : Nat) (h : i < s.data.toList.length) : prims.sat s (i : Int) = Int.ofNat (s.data.toList[i]).toNat := by
  show ((s[(i : Int).toNat]?).map fun b => (b.toNat : Int)).getD 0 = _
  have h1 : i < s.size := h
  rw [Int.toNat_natCast, getElem?_pos s i h1]
  rfl
theorem regIs {n : Nat} (h : n < 4294967296) (s : ByteArray) : ∀ i, i ≤ s.size → reg (Int.ofNat n) s i = Int.ofNat (regL n (s.data.toList.take i))
  | 0, _ => rfl
  | i + 1, hi => by
    have hi' : i < s.data.toList.length := hi
    rw [reg, regIs h s i (by omega), satN s i hi', List.take_succ_eq_append_getElem hi', regL_app]
    obtain ⟨c, hc⟩ : ∃ c, c = s.data.toList[i] := ⟨_, rfl⟩
    obtain ⟨m, hm⟩ : ∃ m, m = regL n (s.data.toList.take i) := ⟨_, rfl⟩
    have hml : m < 4294967296 := hm ▸ regL_lt _ h
    have hcl : c.toNat < 4294967296 := by have := c.toNat_lt; omega
    rw [← hc, ← hm, regByte, convU32N hcl, xorN hml hcl, regBitsN (Nat.xor_lt_two_pow (n := 32) hml hcl)]
    rfl
theorem regAll {n : Nat} (h : n < 4294967296) (s : ByteArray) : reg (Int.ofNat n) s s.size = Int.ofNat (regL n s.data.toList) := by
  rw [regIs h s s.size (Nat.le_refl _), List.take_of_length_le (show s.data.toList.length ≤ s.size from Nat.le_refl _)]
def crcN (l : List UInt8) : Nat := regL 4294967295 l ^^^ 4294967295
theorem crcN_lt (l : List UInt8) : crcN l < 4294967296 := Nat.xor_lt_two_pow (n := 32) (regL_lt l (by decide)) (by decide)
theorem crcBareN (s : ByteArray) : crcBare s = Int.ofNat (crcN s.data.toList) := by
  rw [crcBare, show (4294967295 : Int) = Int.ofNat 4294967295 from rfl, regAll (by decide), xorN (regL_lt _ (by decide)) (by decide)]; rfl
theorem crcN_set (l : List UInt8) (i : Nat) (hi : i < l.length) (x : UInt8) (hx : x ≠ l[i]) : crcN (l.set i x) ≠ crcN l := fun e =>
  regL_set (by decide) l i hi x hx (xorR e)
theorem fourN_inj {a b : Nat} (ha : a < 4294967296) (hb : b < 4294967296) (h : four (Int.ofNat a) = four (Int.ofNat b)) : a = b := by
  have lb : ∀ n : Nat, lastByte (Int.ofNat n) = UInt8.ofNat (n % 256) := fun n => by
    rw [lastByte, conv_u8]; rfl
  have sh : ∀ (n : Nat), prims.shr .i64 (Int.ofNat n) 8 = Int.ofNat (n / 256) ∧ prims.shr .i64 (Int.ofNat n) 16 = Int.ofNat (n / 65536) ∧ prims.shr .i64 (Int.ofNat n) 24 = Int.ofNat (n / 16777216) := fun n => ⟨shrG .i64 n 8 256 rfl, shrG .i64 n 16 65536 rfl, shrG .i64 n 24 16777216 rfl⟩
  have e : [lastByte (Int.ofNat a), lastByte (prims.shr .i64 (Int.ofNat a) 8), lastByte (prims.shr .i64 (Int.ofNat a) 16), lastByte (prims.shr .i64 (Int.ofNat a) 24)] =
      [lastByte (Int.ofNat b), lastByte (prims.shr .i64 (Int.ofNat b) 8), lastByte (prims.shr .i64 (Int.ofNat b) 16), lastByte (prims.shr .i64 (Int.ofNat b) 24)] := congrArg (fun s : ByteArray => s.data.toList) h
  rw [(sh a).1, (sh a).2.1, (sh a).2.2, (sh b).1, (sh b).2.1, (sh b).2.2] at e
  simp only [lb, List.cons.injEq, and_true] at e
  have u : ∀ x y : Nat, x < 256 → y < 256 → UInt8.ofNat x = UInt8.ofNat y → x = y := fun x y hx hy e => by
    have := congrArg UInt8.toNat e
    simp only [UInt8.toNat_ofNat'] at this
    omega
  have e1 := u _ _ (by omega) (by omega) e.1
  have e2 := u _ _ (by omega) (by omega) e.2.1
  have e3 := u _ _ (by omega) (by omega) e.2.2.1
  have e4 := u _ _ (by omega) (by omega) e.2.2.2
  omega
theorem baE {a b : ByteArray} (h : a.data.toList = b.data.toList) : a = b := by
  cases a with | mk x => cases b with | mk y => cases x with | mk l => cases y with | mk k => cases h; rfl
theorem catL1 (a b : ByteArray) : (a ++ b).data.toList = a.data.toList ++ b.data.toList := by simp
theorem extL1 (a : ByteArray) (i j : Nat) : (a.extract i j).data.toList = (a.data.toList.take j).drop i := by simp [List.drop_take, List.extract]
/-- A seal with one byte turned. -/
def turnB (s : ByteArray) (i : Nat) (x : UInt8) : ByteArray := ⟨⟨s.data.toList.set i x⟩⟩
theorem four_size (n : Int) : (four n).data.toList.length = 4 := rfl
theorem seal_size {t : ByteArray} (h : t.size ≤ 19996) : (sealOf t).size = t.size + 4 := by
  rw [sealOf, if_neg (by omega), ByteArray.size_append]; rfl
theorem seal_list {t : ByteArray} (h : t.size ≤ 19996) : (sealOf t).data.toList = t.data.toList ++ (four (crcBare t)).data.toList := by
  rw [sealOf, if_neg (by omega), catL1]
theorem body_list (s : ByteArray) : (bodyOf s).data.toList = s.data.toList.take (s.size - 4) := by rw [bodyOf, extL1, List.drop_zero]
theorem unseal_ok {t : ByteArray} (h : t.size ≤ 19996) : unText (sealOf t) = t ∧ unCode (sealOf t) = 0 := by
  have hs := seal_size h
  have hb : bodyOf (sealOf t) = t := baE (by
    rw [body_list, hs, seal_list h, Nat.add_sub_cancel]; exact List.take_left' (show t.data.toList.length = t.size from rfl))
  have hr : sumRight (sealOf t) = true := by
    rw [sumRight, seq_is, hb]
    refine decide_eq_true ?_
    rw [sealOf, if_neg (by omega)]
  have n1 : ¬ 20000 < (sealOf t).size := by omega
  have n2 : ¬ (sealOf t).size < 4 := by omega
  rw [unText, unCode, if_neg n1, if_neg n2, if_neg n1, if_neg n2, ite_t hr, ite_t hr, hb]
  exact ⟨rfl, rfl⟩
theorem unseal_turned {t : ByteArray} (h : t.size ≤ 19996) {i : Nat} (hi : i < t.size + 4) {x : UInt8} (hx : x ≠ (sealOf t).data.toList.getD i 0) : unCode (turnB (sealOf t) i x) = 5 := by
  have hs := seal_size h
  have hl := seal_list h
  have htl : t.data.toList.length = t.size := rfl
  have hls : (sealOf t).data.toList.length = t.size + 4 := hs
  have hz : (turnB (sealOf t) i x).size = t.size + 4 := by show ((sealOf t).data.toList.set i x).length = _; rw [List.length_set, hls]
  have hr : sumRight (turnB (sealOf t) i x) = false := by
    rw [sumRight, seq_is]
    refine decide_eq_false fun e => ?_
    have e : (bodyOf (turnB (sealOf t) i x) ++ four (crcBare (bodyOf (turnB (sealOf t) i x)))).data.toList = (turnB (sealOf t) i x).data.toList := congrArg (fun s : ByteArray => s.data.toList) e
    have hb : (bodyOf (turnB (sealOf t) i x)).data.toList = ((sealOf t).data.toList.set i x).take t.size := by rw [body_list, hz]; rfl
    rw [catL1, hb, show (turnB (sealOf t) i x).data.toList = (sealOf t).data.toList.set i x from rfl] at e
    have hgx : x ≠ (sealOf t).data.toList[i]'(by omega) := by rw [List.getD_eq_getElem?_getD, List.getElem?_eq_getElem (by omega)] at hx; exact hx
    by_cases hit : i < t.size
    · have e1 : ((sealOf t).data.toList.set i x).take t.size = t.data.toList.set i x := by
        rw [hl, List.set_append_left _ _ (by omega)]; exact List.take_left' (by rw [List.length_set]; exact htl)
      have e2 : (sealOf t).data.toList.set i x = t.data.toList.set i x ++ (four (crcBare t)).data.toList := by rw [hl, List.set_append_left _ _ (by omega)]
      rw [e1, e2] at e
      have e3 := baE (List.append_cancel_left e)
      have hb2 : bodyOf (turnB (sealOf t) i x) = ⟨⟨t.data.toList.set i x⟩⟩ := baE (by rw [hb, e1])
      rw [hb2, crcBareN, crcBareN] at e3
      refine crcN_set t.data.toList i (by omega) x ?_ (fourN_inj (crcN_lt _) (crcN_lt _) e3)
      intro e4
      refine hgx (e4.trans ?_)
      have : (sealOf t).data.toList[i]? = t.data.toList[i]? := by rw [hl, List.getElem?_append_left (by omega)]
      rw [List.getElem?_eq_getElem (by omega), List.getElem?_eq_getElem (by omega)] at this
      exact (Option.some.inj this).symm
    · have e1 : ((sealOf t).data.toList.set i x).take t.size = t.data.toList := by
        rw [hl, List.set_append_right _ _ (by omega)]; exact List.take_left' htl
      have hb2 : bodyOf (turnB (sealOf t) i x) = t := baE (by rw [hb, e1])
      rw [e1, hb2, ← hl] at e
      have this : (sealOf t).data.toList[i]? = ((sealOf t).data.toList.set i x)[i]? := congrArg (fun l : List UInt8 => l[i]?) e
      rw [List.getElem?_set_self (by omega), List.getElem?_eq_getElem (by omega)] at this
      exact hgx (Option.some.inj this).symm
  rw [unCode, if_neg (by omega), if_neg (by omega), ite_f hr]
theorem crcOfN {s : ByteArray} (h : s.size ≤ 20000) : crcOf s = Int.ofNat (crcN s.data.toList) := by
  have := crcBareN s
  rw [crcBare] at this
  rw [crcOf, ite_f (show tooLong s = false from decide_eq_false (by omega)), this, convI64N (crcN_lt _)]
theorem crc_on {t u : ByteArray} (h : t.size + u.size ≤ 20000) : crcMore (crcOf t) u = crcOf (t ++ u) := by
  rw [crcOfN (by omega), crcOfN (by rw [ByteArray.size_append]; omega), crcMore]
  have hc := crcN_lt t.data.toList
  rw [ite_f (by
    rw [show tooLong u = false from decide_eq_false (by omega), decide_eq_true (show (0 : Int) ≤ Int.ofNat (crcN t.data.toList) from Int.natCast_nonneg _), decide_eq_true (by ((try simp only [Int.ofNat_eq_natCast] at *); omega))]; rfl)]
  rw [convU32N hc, show (4294967295 : Int) = Int.ofNat 4294967295 from rfl, xorN hc (by decide), crcN, Nat.xor_assoc, Nat.xor_self, Nat.xor_zero, regAll (regL_lt _ (by decide)), xorN (regL_lt _ (regL_lt _ (by decide))) (by decide)]
  rw [← regL_app, ← catL1]
  exact convI64N (crcN_lt _)
end Go.Proofs.Ytemfaiabbonpnaa
