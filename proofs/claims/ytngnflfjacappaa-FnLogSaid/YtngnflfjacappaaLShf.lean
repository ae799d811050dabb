/- Functions of the program, each with what it returns, run by the evaluator; the conditions stand in the theorems. -/
import Derived.Test.YtngnflfjacappaaLBytes
import Derived.Test.YtngnflfjacappaaLShl
import Derived.Test.YtngnflfjacappaaV4
import Derived.Lib.Join
namespace Go.Proofs.Ytngnflfjacappaa
open Go Go.Proofs.YtngnflfjacappaaW Go.Proofs
set_option linter.unusedVariables false
set_option linter.unusedSimpArgs false
set_option maxRecDepth 100000
set_option maxHeartbeats 8000000
/-! texts of the library's own -/
def zerosB (c : Nat) : ByteArray := ⟨⟨List.replicate c 0⟩⟩
def catL (xs : List ByteArray) : List UInt8 := xs.flatMap fun s => s.data.toList
def joinE (xs : List ByteArray) : ByteArray := ⟨⟨catL xs⟩⟩
theorem catL_cons (x : ByteArray) (xs : List ByteArray) : catL (x :: xs) = x.data.toList ++ catL xs := rfl
theorem catL_append (xs ys : List ByteArray) : catL (xs ++ ys) = catL xs ++ catL ys := by simp [catL]
theorem join_is : ∀ (xs : List ByteArray), Lib.join (xs.map (·.data.toList)) [] = catL xs
  | [] => rfl
  | [x] => by rw [List.map_cons, List.map_nil, Lib.join_one]; simp [catL]
  | x :: y :: r => by
    have ih := join_is (y :: r)
    simp only [Lib.join, List.map_cons] at ih ⊢
    rw [catL_cons, ← ih]
    simp [List.intercalate, List.intersperse]
theorem catL_len {M : Nat} : ∀ {xs : List ByteArray}, (∀ x ∈ xs, x.size ≤ M) → (catL xs).length ≤ xs.length * M
  | [], _ => Nat.zero_le _
  | x :: xs, h => by
    have h1 := h x (.head _)
    have h2 := catL_len fun y hy => h y (.tail _ hy)
    rw [catL_cons, List.length_append, List.length_cons, Nat.add_mul, Nat.one_mul]
    have : x.data.toList.length = x.size := rfl
    omega
theorem joinE_ok (xs : List ByteArray) (h1 : xs.length ≤ 140737488355328) (h2 : (catL xs).length ≤ 140737488355328) : CallOK Try.prog 35 [.c (.y (.sl 1 (xs.map rowS))), aS ⟨⟨[]⟩⟩] (St (joinE xs)) :=
  shelf_texts (s := .string ⟨⟨[]⟩⟩) Try.func35 rfl rfl rfl
    (fun e a cap w => (Try.strings_Join_none a cap ⟨⟨[]⟩⟩ w).mono fun e' w' h => ⟨by rw [h.1, e]; rfl, h.2⟩)
    (fun bk o cap w hc hb hl => (Try.strings_Join bk o cap xs ⟨⟨[]⟩⟩ w hc hb h1 hl (by rw [show (({ data := { toList := [] } } : ByteArray).data.toList) = [] from rfl, join_is]; exact h2)).mono fun e' w' h => ⟨by rw [h.1]; simp only [join_is]; rfl, h.2⟩)
theorem zeros_ok (c : Nat) (hc : c ≤ 1000) : CallOK Try.prog 70 [aS ⟨⟨[0]⟩⟩, aN (Int.ofNat c)] (St (zerosB c)) :=
  shelf_sc (ls := [.string ⟨⟨[0]⟩⟩, .int .i64 (Int.ofNat c)]) Try.func70 rfl rfl rfl fun w =>
    (Try.strings_Repeat ⟨⟨[0]⟩⟩ c w (by omega) (by show 1 * c ≤ _; omega)).mono fun e' w' h => ⟨by
      rw [h.1, show (({ data := { toList := [0] } } : ByteArray).data.toList) = List.replicate 1 0 from rfl, Lib.repeatL_replicate, Nat.mul_one]; rfl, h.2⟩
end Go.Proofs.Ytngnflfjacappaa
