/- Functions of the program, each with what it returns, run by the evaluator; the conditions stand in the theorems. -/
import Derived.Test.YtngnflfjacappaaLTy
import Derived.Test.YtngnflfjacappaaLNum
namespace Go.Proofs.Ytngnflfjacappaa
open Go Go.Proofs.YtngnflfjacappaaW Go.Proofs
set_option linter.unusedVariables false
set_option linter.unusedSimpArgs false
set_option maxRecDepth 100000
set_option maxHeartbeats 8000000
/-- Digits ahead of a text. -/
def mtGo (n : Nat) (acc : ByteArray) : ByteArray := if n = 0 then acc else mtGo (n / 10) (⟨⟨[UInt8.ofNat (48 + n % 10)]⟩⟩ ++ acc)
termination_by n
decreasing_by omega
def mt (n : Nat) : ByteArray := if n = 0 then ⟨⟨[109, 48]⟩⟩ else ⟨⟨[109]⟩⟩ ++ mtGo n ⟨⟨[]⟩⟩
theorem mtGo_zero (acc : ByteArray) : mtGo 0 acc = acc := by rw [mtGo, if_pos rfl]
theorem mtGo_pos {n : Nat} (h : n ≠ 0) (acc : ByteArray) : mtGo n acc = mtGo (n / 10) (⟨⟨[UInt8.ofNat (48 + n % 10)]⟩⟩ ++ acc) := by rw [mtGo, if_neg h]
def mb (n : Nat) : Bool := decide (n % 3 = 0)
theorem lset_lset {F : Prims} (hF : prims = F) (l : List (List Y)) (i : Int) (x y : List Y) : F.lset (F.lset l i x) i y = F.lset l i y := by subst hF; exact List.set_set ..
theorem lset_get {F : Prims} (hF : prims = F) {l : List (List Y)} {i : Nat} (h : i < l.length) (x : List Y) : (F.lset l (Int.ofNat i) x)[i]? = some x := by
  subst hF
  show (l.set i x)[i]? = _
  rw [List.getElem?_set_self h]
theorem lset_length {F : Prims} (hF : prims = F) (l : List (List Y)) (i : Int) (x : List Y) : (F.lset l i x).length = l.length := by subst hF; exact List.length_set ..
/-- Of a list, the first ones marked. -/
def marked {α : Type} (f : Nat → α) (l : List α) (i : Nat) : List α := (List.range i).map f ++ l.drop i
theorem marked_end {α : Type} (f : Nat → α) (l : List α) : marked f l l.length = (List.range l.length).map f := by rw [marked, List.drop_length, List.append_nil]
theorem marked_len {α : Type} (f : Nat → α) (l : List α) {i : Nat} (h : i ≤ l.length) : (marked f l i).length = l.length := by rw [marked, List.length_append, List.length_map, List.length_range, List.length_drop]; omega
theorem marked_set {α : Type} (f : Nat → α) (l : List α) {i : Nat} (h : i < l.length) : (marked f l i).set i (f i) = marked f l (i + 1) := by
  unfold marked
  rw [List.set_append_right _ _ (by simp), List.length_map, List.length_range, Nat.sub_self, List.drop_eq_getElem_cons h, List.set_cons_zero, List.range_succ, List.map_append, List.append_assoc]; rfl
def elInt64S (k : Nat) : Nat → Int := fun i => Int.ofNat (k + 1 * i + 0)
def mkInt64S (k n : Nat) : List Int := (List.range n).map (elInt64S k)
def elStringS (k : Nat) : Nat → ByteArray := fun i => mt (k + 1 * i + 0)
def mkStringS (k n : Nat) : List ByteArray := (List.range n).map (elStringS k)
def elBoolS (k : Nat) : Nat → Bool := fun i => mb (k + 1 * i + 0)
def mkBoolS (k n : Nat) : List Bool := (List.range n).map (elBoolS k)
def elValueS (k : Nat) : Nat → Val := fun i => ⟨Int.ofNat (k + 3 * i + 0), Int.ofNat (k + 3 * i + 1), mt (k + 3 * i + 2)⟩
def mkValueS (k n : Nat) : List Val := (List.range n).map (elValueS k)
def elWriteS (k : Nat) : Nat → Wr := fun i => ⟨Int.ofNat (k + 2 * i + 0), mt (k + 2 * i + 1)⟩
def mkWriteS (k n : Nat) : List Wr := (List.range n).map (elWriteS k)
def elRecordS (k : Nat) : Nat → Rcd := fun i => ⟨Int.ofNat (k + 2 * i + 0), mt (k + 2 * i + 1)⟩
def mkRecordS (k n : Nat) : List Rcd := (List.range n).map (elRecordS k)
end Go.Proofs.Ytngnflfjacappaa
