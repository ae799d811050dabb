/- Functions of the program, each with what it returns, run by the evaluator; the conditions stand in the theorems. -/
import Derived.Test.YtemfaiabbonpnaaLShl
import Derived.Test.YtemfaiabbonpnaaV5
import Derived.Test.YtemfaiabbonpnaaTab
namespace Go.Proofs.Ytemfaiabbonpnaa
open Go Go.Proofs.YtemfaiabbonpnaaW Go.Proofs
set_option linter.unusedVariables false
set_option linter.unusedSimpArgs false
set_option maxRecDepth 100000
set_option maxHeartbeats 8000000
/-! strings.Builder -/
def bld (s : ByteArray) : Opq := .bd 73 5 s
theorem ws_at {s t v : ByteArray} {m : Int} (hv : v = s ++ t) (hm : m = (t.size : Int)) (h : s.size + t.size ≤ 140737488355328) :
    CallOK Try.prog 43 [.iop (.bd 73 5 s), aS t] ⟨.tup [(false, [.y (.sc (.int .i64 m))]), (false, [.no])], [[.op (.bd 73 5 v)]]⟩ := by
  subst hv hm; exact writeString_ok (ρ := Try.bld_ren) Try.lays166 Try.Builder_Extra h
theorem bstr_ok (s : ByteArray) (h : s.size ≠ 0) : CallOK Try.prog 48 [.iop (.bd 73 5 s)] ⟨.c (.y (.sc (.string s))), [[.op (.bd 73 5 s)]]⟩ :=
  string_ok (ρ := Try.bld_ren) Try.lays169 Try.Builder_Extra h
end Go.Proofs.Ytemfaiabbonpnaa
