/- Functions of the program, each with what it returns, run by the evaluator; the conditions stand in the theorems. -/
import Derived.Test.YthaelohccopgjaaLTree
namespace Go.Proofs.Ythaelohccopgjaa
open Go Go.Proofs.YthaelohccopgjaaW Go.Proofs
set_option linter.unusedVariables false
set_option linter.unusedSimpArgs false
set_option maxRecDepth 100000
set_option maxHeartbeats 8000000
/-! texts in order -/
def ltS (a b : ByteArray) : Bool := Op.bytesLess a.toList b.toList
theorem bytesLess_is : ∀ (x y : List UInt8), Op.bytesLess x y = decide (x < y)
  | [], [] => by simp [Op.bytesLess]
  | [], y :: b => by simp [Op.bytesLess]
  | x :: a, [] => by simp [Op.bytesLess]
  | x :: a, y :: b => by
    rw [Op.bytesLess, bytesLess_is a b]
    by_cases h : x = y
    · subst h; simp [List.cons_lt_cons_iff, UInt8.lt_irrefl]
    · simp [List.cons_lt_cons_iff, h]
theorem ltS_irrefl (a : ByteArray) : ltS a a = false := by
  simp only [ltS, bytesLess_is, decide_eq_false_iff_not]
  exact List.lt_irrefl _
theorem ltS_trans {a b c : ByteArray} (h : ltS a b = true) (h' : ltS b c = true) : ltS a c = true := by
  simp only [ltS, bytesLess_is, decide_eq_true_eq] at *
  exact List.lt_trans h h'
theorem ltS_total {a b : ByteArray} (h : ltS a b = false) (h' : ltS b a = false) : a = b := by
  simp only [ltS, bytesLess_is, decide_eq_false_iff_not] at *
  exact toList_inj.1 (List.le_antisymm (List.not_lt.1 h') (List.not_lt.1 h))
theorem sle_is (a b : ByteArray) : prims.sle a b = !ltS b a := by
  have e : prims.sle a b = (ltS a b || a.toList == b.toList) := rfl
  rw [e]
  by_cases h : a = b
  · subst h; rw [ltS_irrefl]; simp
  · have hne : (a.toList == b.toList) = false := beq_eq_false_iff_ne.2 fun e => h (toList_inj.1 e)
    rw [hne, Bool.or_false]
    cases h1 : ltS a b <;> cases h2 : ltS b a
    · exact absurd (ltS_total h1 h2) h
    · rfl
    · rfl
    · have := ltS_trans h1 h2; rw [ltS_irrefl] at this; cases this
section
variable {F : Prims} (hF : prims = F)
include hF
theorem sltT {a b : ByteArray} (h : F.slt a b = true) : ltS a b = true := by subst hF; exact h
theorem sltF {a b : ByteArray} (h : F.slt a b = false) : ltS a b = false := by subst hF; exact h
theorem sleT {a b : ByteArray} (h : F.sle a b = true) : ltS b a = false := by subst hF; rw [sle_is] at h; simpa using h
theorem sleF {a b : ByteArray} (h : F.sle a b = false) : ltS b a = true := by subst hF; rw [sle_is] at h; simpa using h
theorem sub1Is {i : Nat} (h : 0 < i) (h' : i < 9223372036854775807) : F.sub .i64 (Int.ofNat i) 1 = Int.ofNat (i - 1) := by
  have e : F.sub .i64 (Int.ofNat i) 1 = Int.ofNat i - 1 := subIs hF (by simp only [Int.ofNat_eq_natCast]; omega) (by simp only [Int.ofNat_eq_natCast]; omega)
  rw [e]; simp only [Int.ofNat_eq_natCast]; omega
end
/-! trees -/
def noS : ByteArray := ⟨⟨[]⟩⟩
def Tr.key (t : Tr) (i : Nat) : ByteArray := t.keys.getD i noS
def Tr.val (t : Tr) (i : Nat) : ByteArray := t.vals.getD i noS
def Tr.kid (t : Tr) (i : Nat) : Tr := t.kids.getD i default
def Tr.keyOk (t : Tr) (i : Nat) : Bool := !decide (20000 < (t.key i).size) && !decide (20000 < (t.val i).size) && (decide (i = 0) || ltS (t.key (i - 1)) (t.key i))
def lowOk (lo : Option ByteArray) (k : ByteArray) : Bool := match lo with
  | none => true
  | some l => ltS l k
def highOk (hi : Option ByteArray) (k : ByteArray) : Bool := match hi with
  | none => true
  | some h => ltS k h
def Tr.lowAt (t : Tr) (lo : Option ByteArray) (i : Nat) : Option ByteArray := if i = 0 then lo else some (t.key (i - 1))
def Tr.highAt (t : Tr) (hi : Option ByteArray) (i : Nat) : Option ByteArray := if i < t.keys.length then some (t.key i) else hi
def Tr.shape (t : Tr) (root : Bool) : Bool := decide (t.keys.length ≤ 3) && (root || decide (t.keys.length ≠ 0)) && decide (t.vals.length = t.keys.length) && (decide (t.kids.length = 0) || decide (t.kids.length = t.keys.length + 1) && decide (t.keys.length ≠ 0))
def kidsRun (f : Nat → Int) : Nat → Nat → Int → Int
  | _, 0, d => d
  | i, m + 1, d => if decide (f i < 0) || decide (i ≠ 0) && decide (f i ≠ d) then -1 else kidsRun f (i + 1) m (f i)
def Tr.headOk (t : Tr) (lo hi : Option ByteArray) : Bool := t.shape false && allTo t.keyOk t.keys.length && (lowOk lo (t.key 0) && highOk hi (t.key (t.keys.length - 1)))
def upOne (r : Int) : Int := if r < 0 then -1 else r + 1
def lev : Nat → Tr → Option ByteArray → Option ByteArray → Int
  | 0, _, _, _ => -1
  | k + 1, t, lo, hi => if t.headOk lo hi then upOne (kidsRun (fun i => lev k (t.kid i) (t.lowAt lo i) (t.highAt hi i)) 0 t.kids.length 0) else -1
def okT : Nat → Bool → Tr → Option ByteArray → Option ByteArray → Bool
  | 0, _, _, _, _ => false
  | d + 1, root, t, lo, hi => t.shape root && (decide (t.kids.length = 0) == decide (d = 0)) && allTo (fun i => t.keyOk i && lowOk lo (t.key i) && highOk hi (t.key i)) t.keys.length && allTo (fun i => okT d false (t.kid i) (t.lowAt lo i) (t.highAt hi i)) t.kids.length
def deepT : Nat → Tr → Nat
  | 0, _ => 0
  | m + 1, t => if t.kids.length = 0 then 1 else deepT m (t.kid 0) + 1
def heightT (t : Tr) : Int := if t.keys.length = 0 then (if t.vals.length + t.kids.length = 0 then 0 else -1) else lev 12 t none none
def rightT (t : Tr) : Bool := decide (deepT 13 t ≤ 12) && okT (deepT 13 t) true t none none
/-! both answers are one -/
theorem kidsRun_eq {f : Nat → Int} : ∀ {m i : Nat} {d r : Int}, 0 < i → kidsRun f i m d = r → 0 ≤ r → 0 ≤ d → r = d ∧ ∀ j, i ≤ j → j < i + m → f j = d
  | 0, i, d, r, _, h, _, _ => ⟨h.symm, fun j h1 h2 => absurd h2 (by omega)⟩
  | m + 1, i, d, r, hi, h, hr, hd => by
    rw [kidsRun] at h
    split at h
    · omega
    · rename_i hc
      simp only [Bool.or_eq_true, Bool.and_eq_true, decide_eq_true_eq, not_or, not_and] at hc
      have hfd : f i = d := by
        have := hc.2 (by omega)
        omega
      rw [hfd] at h
      obtain ⟨h1, h2⟩ := kidsRun_eq (by omega) h hr hd
      refine ⟨h1, fun j hj hj2 => ?_⟩
      by_cases e : j = i
      · subst e; exact hfd
      · exact h2 j (by omega) (by omega)
theorem kidsRun_of {f : Nat → Int} : ∀ {m i : Nat} {d : Int}, 0 ≤ d → (∀ j, i ≤ j → j < i + m → f j = d) → kidsRun f i m d = d
  | 0, i, d, _, _ => rfl
  | m + 1, i, d, hd, h => by
    have h0 := h i (by omega) (by omega)
    rw [kidsRun, h0, if_neg (by simp; omega)]
    exact kidsRun_of hd fun j h1 h2 => h j (by omega) (by omega)
theorem keys_all {t : Tr} {lo hi : Option ByteArray} (h : ∀ i, i < t.keys.length → t.keyOk i = true) (hn : 0 < t.keys.length) (h1 : lowOk lo (t.key 0) = true) (h2 : highOk hi (t.key (t.keys.length - 1)) = true) :
    ∀ i, i < t.keys.length → lowOk lo (t.key i) = true ∧ highOk hi (t.key i) = true := by
  have up : ∀ i, i < t.keys.length → lowOk lo (t.key i) = true := by
    intro i
    induction i with
    | zero => exact fun _ => h1
    | succ i ih =>
      intro hi'
      have a := ih (by omega)
      have b := h (i + 1) hi'
      simp only [Tr.keyOk, Bool.and_eq_true, Bool.or_eq_true, decide_eq_true_eq] at b
      have b := b.2.resolve_left (by omega)
      cases lo with
      | none => rfl
      | some l => exact ltS_trans a b
  have dn : ∀ k i, i < t.keys.length → t.keys.length - 1 - i = k → highOk hi (t.key i) = true := by
    intro k
    induction k with
    | zero => intro i h3 h4; have e : i = t.keys.length - 1 := by omega
              rw [e]; exact h2
    | succ k ih =>
      intro i h3 h4
      have a := ih (i + 1) (by omega) (by omega)
      have b := h (i + 1) (by omega)
      simp only [Tr.keyOk, Bool.and_eq_true, Bool.or_eq_true, decide_eq_true_eq] at b
      have b := b.2.resolve_left (by omega)
      cases hi with
      | none => rfl
      | some l => exact ltS_trans b a
  exact fun i h => ⟨up i h, dn _ i h rfl⟩
theorem allTo_iff {p : Nat → Bool} {n : Nat} : allTo p n = true ↔ ∀ i, i < n → p i = true := by
  induction n with
  | zero => simp [allTo]
  | succ n ih =>
    simp only [allTo, Bool.and_eq_true, ih]
    constructor
    · rintro h i hi
      by_cases e : i = n
      · subst e; first | exact h.2 | exact h.1
      · first | exact h.1 i (by omega) | exact h.2 i (by omega)
    · intro h
      first
        | exact ⟨fun i hi => h i (by omega), h n (by omega)⟩
        | exact ⟨h n (by omega), fun i hi => h i (by omega)⟩
theorem lev_ok : ∀ {k : Nat} {t : Tr} {lo hi : Option ByteArray} {d : Int}, lev k t lo hi = d → 0 ≤ d → ∃ d' : Nat, d = (d' : Int) ∧ 1 ≤ d' ∧ d' ≤ k ∧ okT d' false t lo hi = true ∧ ∀ m, d' ≤ m → deepT m t = d'
  | 0, t, lo, hi, d, h, hd => by rw [lev] at h; omega
  | k + 1, t, lo, hi, d, h, hd => by
    rw [lev] at h
    split at h
    · rename_i hh
      simp only [Tr.headOk, Bool.and_eq_true] at hh
      obtain ⟨⟨hs, hk⟩, hl, hg⟩ := hh
      obtain ⟨r, hr⟩ : ∃ r, r = kidsRun (fun i => lev k (t.kid i) (t.lowAt lo i) (t.highAt hi i)) 0 t.kids.length 0 := ⟨_, rfl⟩
      rw [← hr] at h
      unfold upOne at h
      split at h
      · omega
      · rename_i hr0
        have hn : 0 < t.keys.length := by
          simp only [Tr.shape, Bool.and_eq_true, Bool.or_eq_true, decide_eq_true_eq, Bool.false_eq_true, false_or] at hs; omega
        have hall := allTo_iff.1 hk
        have hkeys := keys_all hall hn hl hg
        have hkeysB : allTo (fun i => t.keyOk i && lowOk lo (t.key i) && highOk hi (t.key i)) t.keys.length = true :=
          allTo_iff.2 fun i hi => by rw [hall i hi, (hkeys i hi).1, (hkeys i hi).2]; rfl
        cases hm : t.kids.length with
        | zero =>
          rw [hm, kidsRun] at hr
          subst hr
          refine ⟨1, by omega, by omega, by omega, ?_, fun m hm' => ?_⟩
          · rw [okT, hs, hkeysB, hm]; rfl
          · obtain ⟨m, rfl⟩ : ∃ m', m = m' + 1 := ⟨m - 1, by omega⟩
            rw [deepT, if_pos hm]
        | succ n =>
          rw [hm, kidsRun] at hr
          split at hr
          · omega
          · rename_i hc
            simp only [Bool.or_eq_true, Bool.and_eq_true, decide_eq_true_eq, not_or, not_and] at hc
            obtain ⟨he, hj⟩ := kidsRun_eq (by omega) hr.symm (by omega) (by omega)
            obtain ⟨d0, h0, h1, h2, h3, h4⟩ := lev_ok (k := k) (t := t.kid 0) (lo := t.lowAt lo 0) (hi := t.highAt hi 0) rfl (by omega)
            refine ⟨d0 + 1, by omega, by omega, by omega, ?_, fun m hm' => ?_⟩
            · rw [okT, hs, hkeysB]
              have e1 : decide (t.kids.length = 0) = false := decide_eq_false (by omega)
              have e2 : decide (d0 = 0) = false := decide_eq_false (by omega)
              rw [e1, e2, Bool.and_eq_true]
              refine ⟨rfl, allTo_iff.2 fun i hi' => ?_⟩
              have hfi : lev k (t.kid i) (t.lowAt lo i) (t.highAt hi i) = (d0 : Int) := by
                by_cases e : i = 0
                · subst e; exact h0
                · have := hj i (by omega) (by omega)
                  rw [this]; exact h0
              obtain ⟨d1, g0, g1, g2, g3, g4⟩ := lev_ok (k := k) (t := t.kid i) hfi (by omega)
              have : d1 = d0 := by omega
              subst this; exact g3
            · obtain ⟨m, rfl⟩ : ∃ m', m = m' + 1 := ⟨m - 1, by omega⟩
              rw [deepT, if_neg (by omega), h4 m (by omega)]
    · omega
theorem okT_lev : ∀ {d k : Nat} {t : Tr} {lo hi : Option ByteArray}, okT d false t lo hi = true → d ≤ k → lev k t lo hi = (d : Int)
  | 0, k, t, lo, hi, h, _ => by rw [okT] at h; cases h
  | d + 1, k, t, lo, hi, h, hk => by
    obtain ⟨k, rfl⟩ : ∃ k', k = k' + 1 := ⟨k - 1, by omega⟩
    rw [okT] at h
    simp only [Bool.and_eq_true] at h
    obtain ⟨⟨⟨hs, hz⟩, hkeys⟩, hkids⟩ := h
    have hall := allTo_iff.1 hkeys
    have hks := allTo_iff.1 hkids
    have hn : 0 < t.keys.length := by
      simp only [Tr.shape, Bool.and_eq_true, Bool.or_eq_true, decide_eq_true_eq, Bool.false_eq_true, false_or] at hs; omega
    have b0 := hall 0 hn
    have b1 := hall (t.keys.length - 1) (by omega)
    simp only [Bool.and_eq_true] at b0 b1
    have hhead : t.headOk lo hi = true := by
      simp only [Tr.headOk, Bool.and_eq_true]
      exact ⟨⟨hs, allTo_iff.2 fun i hi => by have := hall i hi; simp only [Bool.and_eq_true] at this; exact this.1.1⟩, b0.1.2, b1.2⟩
    rw [lev, if_pos hhead]
    have hz : t.kids.length = 0 ↔ d = 0 := by
      have := eq_of_beq hz
      constructor
      · intro e; rw [decide_eq_true e] at this; exact of_decide_eq_true this.symm
      · intro e; rw [decide_eq_true e] at this; exact of_decide_eq_true this
    have hr : kidsRun (fun i => lev k (t.kid i) (t.lowAt lo i) (t.highAt hi i)) 0 t.kids.length 0 = (d : Int) := by
      cases hm : t.kids.length with
      | zero => rw [kidsRun, hz.1 hm]; rfl
      | succ n =>
        have f := fun i (hi' : i < t.kids.length) => okT_lev (k := k) (hks i hi') (by omega)
        rw [kidsRun, if_neg (by simp only [f 0 (by omega)]; simp)]
        simp only [f 0 (by omega)]
        exact kidsRun_of (by omega) fun j h1 h2 => f j (by omega)
    rw [hr, upOne, if_neg (by omega)]; omega
theorem okT_deep : ∀ {d : Nat} {root : Bool} {t : Tr} {lo hi : Option ByteArray}, okT d root t lo hi = true → t.keys.length ≠ 0 → okT d false t lo hi = true
  | 0, root, t, lo, hi, h, _ => by rw [okT] at h; cases h
  | d + 1, root, t, lo, hi, h, hn => by
    rw [okT] at h ⊢
    have : t.shape root = t.shape false := by simp [Tr.shape, hn]
    rw [this] at h; exact h
theorem okT_root {d : Nat} {t : Tr} {lo hi : Option ByteArray} (h : okT d false t lo hi = true) : okT d true t lo hi = true := by
  cases d with
  | zero => rw [okT] at h; cases h
  | succ d =>
    rw [okT] at h ⊢
    simp only [Bool.and_eq_true] at h ⊢
    refine ⟨⟨⟨?_, h.1.1.2⟩, h.1.2⟩, h.2⟩
    have hs := h.1.1.1
    simp only [Tr.shape, Bool.and_eq_true, Bool.or_eq_true, decide_eq_true_eq, Bool.false_eq_true, false_or, true_or, and_true] at hs ⊢
    exact ⟨⟨hs.1.1.1, hs.1.2⟩, hs.2⟩
theorem height_deep {t : Tr} (h : 0 ≤ heightT t) (hn : t.keys.length ≠ 0) : heightT t = (deepT 13 t : Int) := by
  rw [heightT, if_neg hn] at h ⊢
  obtain ⟨d, h1, h2, h3, h4, h5⟩ := lev_ok rfl h
  rw [h1, h5 13 (by omega)]
theorem right_is (t : Tr) : rightT t = decide (0 ≤ heightT t) := by
  by_cases hn : t.keys.length = 0
  · rw [heightT, if_pos hn]
    by_cases hz : t.vals.length + t.kids.length = 0
    · have hk : t.kids.length = 0 := by omega
      have hv : t.vals.length = 0 := by omega
      have e : deepT 13 t = 1 := by rw [deepT, if_pos hk]
      rw [if_pos hz, rightT, e, okT, hk, hn, Tr.shape, hk, hn, hv]; rfl
    · rw [if_neg hz]
      have : okT (deepT 13 t) true t none none = false := by
        cases deepT 13 t with
        | zero => rfl
        | succ d =>
          rw [okT]
          have : t.shape true = false := by
            rw [Bool.eq_false_iff]
            intro hs
            simp only [Tr.shape, Bool.and_eq_true, Bool.or_eq_true, decide_eq_true_eq, true_or, and_true] at hs
            omega
          rw [this]; rfl
      rw [rightT, this, Bool.and_false]; rfl
  · rw [Bool.eq_iff_iff, decide_eq_true_eq]
    constructor
    · intro h
      simp only [rightT, Bool.and_eq_true, decide_eq_true_eq] at h
      rw [heightT, if_neg hn, okT_lev (okT_deep h.2 hn) h.1]
      omega
    · intro h
      have h' := h
      rw [heightT, if_neg hn] at h'
      obtain ⟨d, h1, h2, h3, h4, h5⟩ := lev_ok rfl h'
      simp only [rightT, Bool.and_eq_true, decide_eq_true_eq]
      rw [h5 13 (by omega)]
      exact ⟨h3, okT_root h4⟩
end Go.Proofs.Ythaelohccopgjaa
