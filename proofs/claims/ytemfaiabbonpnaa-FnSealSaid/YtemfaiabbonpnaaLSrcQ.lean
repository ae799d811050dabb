/- Functions of the program, each with what it returns, run by the evaluator; the conditions stand in the theorems. -/
import Derived.Test.YtemfaiabbonpnaaLSrc3
namespace Go.Proofs.Ytemfaiabbonpnaa
open Go Go.Proofs.YtemfaiabbonpnaaW Go.Proofs
set_option linter.unusedVariables false
set_option linter.unusedSimpArgs false
set_option maxRecDepth 100000
set_option maxHeartbeats 8000000
/-! Draws, told by what holds of what is drawn. -/
structure SrcAt (xs : List (List Y)) (a : Int) : Prop where
  ex : ∃ (l : List UInt8) (n : Nat), xs = bytesL l ∧ a = Int.ofNat n ∧ n ≤ l.length ∧ l.length ≤ 1048576
def NumQ (xs : List (List Y)) (z most : Int) (r : Res) : Prop := ∃ q a m, 0 ≤ q ∧ (q < most ∨ q = 0) ∧ SrcAt xs a ∧ r = ⟨.c (.y (yN q)), [srcC xs a m z]⟩
theorem n_q {xs : List (List Y)} {a : Int} (h : SrcAt xs a) (m z most : Int) (hm : most ≤ 4611686018427387904) :
    CallQ Try.prog 21 [.io (srcC xs a m z), aN most] (NumQ xs z most) := by
  obtain ⟨l, n, rfl, rfl, h1, h2⟩ := h.ex
  have hr := nRes_range l n m most
  exact CallOK.q (n_ok l n m z most h2 h1 hm) ⟨_, _, _, by omega, by omega, ⟨l, _, rfl, rfl, nAt_le l n most h1, h2⟩, rfl⟩
theorem one_q {xs : List (List Y)} {a : Int} (h : SrcAt xs a) (m z most : Int) (hm : most ≤ 4611686018427387904) :
    CallQ Try.prog 20 [.io (srcC xs a m z), aN most] (fun r => ∃ b a m, SrcAt xs a ∧ r = ⟨.c (.y (yB b)), [srcC xs a m z]⟩) := by
  obtain ⟨l, n, rfl, rfl, h1, h2⟩ := h.ex
  exact CallOK.q (one_ok l n m z most h2 h1 hm) ⟨_, _, _, ⟨l, _, rfl, rfl, nAt_le l n most h1, h2⟩, rfl⟩
theorem edge_q {xs : List (List Y)} {a : Int} (h : SrcAt xs a) (m z : Int) :
    CallQ Try.prog 27 [.io (srcC xs a m z)] (fun r => ∃ q a m, I64 q ∧ SrcAt xs a ∧ r = ⟨.c (.y (yN q)), [srcC xs a m z]⟩) := by
  obtain ⟨l, n, rfl, rfl, h1, h2⟩ := h.ex
  obtain ⟨e, he, hc⟩ := edge_ok l n m z h2 h1
  exact CallOK.q hc ⟨_, _, _, he, ⟨l, _, rfl, rfl, nAt_le l n 14 h1, h2⟩, rfl⟩
theorem bytes_q {xs : List (List Y)} {a : Int} (h : SrcAt xs a) (m z n : Int) (h0 : 0 ≤ n) (hn : n ≤ 1000000) :
    CallQ Try.prog 22 [.io (srcC xs a m z), aN n] (fun r => ∃ (t : ByteArray) (a m : Int), Int.ofNat t.size = n ∧ SrcAt xs a ∧ r = ⟨.c (.y (yS t)), [srcC xs a m z]⟩) := by
  obtain ⟨l, k, rfl, rfl, h1, h2⟩ := h.ex
  obtain ⟨n, rfl⟩ : ∃ k : Nat, n = Int.ofNat k := ⟨n.toNat, by ((try simp only [Int.ofNat_eq_natCast] at *); omega)⟩
  refine CallOK.q (bytes_ok l k m z n h2 h1 (by ((try simp only [Int.ofNat_eq_natCast] at *); omega))) ⟨_, _, _, ?_, ⟨l, _, rfl, rfl, bytesGo_at l n k m h1, h2⟩, rfl⟩
  show Int.ofNat (bytesGo l n k m).1.length = _
  rw [bytesGo_len]
/-- What draws start from. -/
def IsCode (xs : List (List Y)) : Prop := ∃ l : List UInt8, xs = bytesL l ∧ l.length ≤ 1048576
theorem source_q {xs : List (List Y)} (h : IsCode xs) : CallQ Try.prog 19 [.c (.y (.sl 1 xs))] (fun r => ∃ m z, 0 ≤ z ∧ z ≤ 12 ∧ SrcAt xs 0 ∧ r = ⟨.c (.own 0 [[.sl 1 xs, yN 0, .sc (.int .u64 m), yN z]]), []⟩) := by
  obtain ⟨l, rfl, hl⟩ := h
  refine CallOK.q (source_ok l hl) ⟨_, _, ?_, ?_, ⟨l, 0, rfl, rfl, Nat.zero_le _, hl⟩, rfl⟩
  all_goals
    have e : prims.quo .i64 (Int.ofNat l.length) 20 = Int.ofNat (l.length / 20) := by
      have e1 : (Int.ofNat l.length).tdiv 20 = Int.ofNat (l.length / 20) := rfl
      show IntKind.i64.wrap _ = _
      rw [e1, wrap_i64 (by ((try simp only [Int.ofNat_eq_natCast] at *); omega)) (by ((try simp only [Int.ofNat_eq_natCast] at *); omega))]
    rw [srcZ, e]
    split <;> ((try simp only [Int.ofNat_eq_natCast] at *); omega)
end Go.Proofs.Ytemfaiabbonpnaa
