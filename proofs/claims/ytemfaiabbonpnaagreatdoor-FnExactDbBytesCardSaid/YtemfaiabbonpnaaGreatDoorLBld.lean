/- Functions of the program, each with what it returns, run by the evaluator; the conditions stand in the theorems. -/
import Derived.Test.YtemfaiabbonpnaaGreatDoorLKBR
import Derived.Test.YtemfaiabbonpnaaGreatDoorLShl
import Derived.Test.YtemfaiabbonpnaaGreatDoorV5
namespace Go.Proofs.YtemfaiabbonpnaaGreatDoor
open Go Go.Proofs.YtemfaiabbonpnaaGreatDoorW Go.Proofs
set_option linter.unusedVariables false
set_option linter.unusedSimpArgs false
set_option maxRecDepth 100000
set_option maxHeartbeats 8000000
/-! strings.Builder, and strings.ReplaceAll of the byte 0 -/
def bld (s : ByteArray) : Opq := .bd 66 5 s
def tupN (n : Nat) : RV := .tup [(false, [.y (.sc (.int .i64 n))]), (false, [.no])]
theorem ws_ok (s t : ByteArray) (h : s.size + t.size ≤ 140737488355328) : CallOK Tryz.prog 24 [.iop (bld s), aS t] ⟨tupN t.size, [[.op (bld (s ++ t))]]⟩ :=
  writeString_ok (ρ := Tryz.lays154_ren) { Tryz.lays154 with } Tryz.Builder_Extra_154 h
theorem bstr_ok (s : ByteArray) (h : s.size ≠ 0) : CallOK Tryz.prog 29 [.iop (bld s)] ⟨.c (.y (.sc (.string s))), [[.op (bld s)]]⟩ :=
  string_ok (ρ := Tryz.lays154_ren) { Tryz.lays154 with } Tryz.Builder_Extra_154 h
theorem grow_ok (n : Nat) (h : n ≤ 10000000000000) : CallOK Tryz.prog 117 [.iop (bld ⟨#[]⟩), aN (Int.ofNat n)] ⟨.tup [], [[.op (bld ⟨#[]⟩)]]⟩ :=
  Grow_ok (ρ := Tryz.lays154_ren) { Tryz.lays154 with } Tryz.Builder_Extra_154 h
def z1 : ByteArray := ⟨⟨[0]⟩⟩
def zf : ByteArray := ⟨⟨[0, 255]⟩⟩
theorem count_ok (s : ByteArray) : CallOK Tryz.prog 116 [aS s, aS z1] (N (Int.ofNat (s.data.toList.count 0))) :=
  shelf_sc (ls := [.string s, .string z1]) Tryz.func116 rfl rfl rfl fun w =>
    (Tryz.strings_Count_one s 0 w).mono fun e' w' h => ⟨h.1, by rw [h.2]; exact RowKit.Below.refl _ _⟩
end Go.Proofs.YtemfaiabbonpnaaGreatDoor
