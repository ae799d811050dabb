/- Functions of the program, each with what it returns, run by the evaluator; the conditions stand in the theorems. -/
import Derived.Test.YtemfaiabbonpnaaGreatDoorLShl
import Derived.Test.YtemfaiabbonpnaaGreatDoorV5
import Derived.Test.YtemfaiabbonpnaaGreatDoorTab
namespace Go.Proofs.YtemfaiabbonpnaaGreatDoor
open Go Go.Proofs.YtemfaiabbonpnaaGreatDoorW Go.Proofs
set_option linter.unusedVariables false
set_option linter.unusedSimpArgs false
set_option maxRecDepth 100000
set_option maxHeartbeats 8000000
/-! strings.Builder -/
def bldS (s : ByteArray) : Opq := .bd 66 5 s
theorem wsS_at {s t v : ByteArray} {m : Int} (hv : v = s ++ t) (hm : m = (t.size : Int)) (h : s.size + t.size ≤ 140737488355328) :
    CallOK Tryz.prog 24 [.iop (.bd 66 5 s), aS t] ⟨.tup [(false, [.y (.sc (.int .i64 m))]), (false, [.no])], [[.op (.bd 66 5 v)]]⟩ := by
  subst hv hm; exact writeString_ok (ρ := Tryz.bld_ren) Tryz.lays166 Tryz.Builder_Extra h
theorem bstrS_ok (s : ByteArray) (h : s.size ≠ 0) : CallOK Tryz.prog 29 [.iop (.bd 66 5 s)] ⟨.c (.y (.sc (.string s))), [[.op (.bd 66 5 s)]]⟩ :=
  string_ok (ρ := Tryz.bld_ren) Tryz.lays169 Tryz.Builder_Extra h
end Go.Proofs.YtemfaiabbonpnaaGreatDoor
