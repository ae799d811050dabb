/- The program's TreeSize returns what the reference's returns, for all arguments: the row. -/
import Derived.Test.YtlnjihghghmkeaaRows
import Derived.Test.YtlnjihghghmkeaaLKTreeSize
import Derived.WalkKit
import Derived.ProofKit
import Derived.OpenShut
import Derived.ShutString
import Derived.ChangeOld
import Derived.Below
import Derived.SizedLaws
namespace Go.Proofs.Ytlnjihghghmkeaa.fnExactTreeSize
open Go Go.Proofs.YtlnjihghghmkeaaW
set_option maxRecDepth 100000
def pars : List Par := [⟨25, true, Tr.RP⟩]
theorem parsOk : ∀ p ∈ pars, ParOk Try.prog p := by
  intro p hp
  simp only [pars, List.mem_cons, List.not_mem_nil, or_false] at hp
  rcases hp with rfl
  · exact ⟨fun n => Tr.opens, rfl, fun ys h => let ⟨v, e, _⟩ := Tr.lift h; by rw [e, Tr.row_eq]; exact Nat.le_of_ble_eq_true rfl⟩
theorem called : ∀ yss, ParsR pars yss → CallOK Try.prog 5 (argsOf pars yss) ⟨.c (.y (.sc (.bool true))), []⟩ := by
  intro yss h
  obtain ⟨y0, rfl, h0⟩ := pars1 h
  obtain ⟨t, rfl, t_b, t_r⟩ := Tr.lift h0
  rw [Tr.row_eq]
  exact lawTreeSize_ok t t_b t_r
end Go.Proofs.Ytlnjihghghmkeaa.fnExactTreeSize
namespace Go.Proofs.Ytlnjihghghmkeaa.fnExactTreeSize
open Go Go.Proofs.YtlnjihghghmkeaaW Go.ChangeShapes Go.WideShapes Go.ChangeAt Go.RowKit
set_option maxRecDepth 100000
set_option maxHeartbeats 8000000
theorem own : ownKnob Try.prog.godebug = none := by kernel_rfl
theorem lifted (os : Os) (started : os.Started) (H : Type) (enc : TypeId × Value → H) :
    ReturnsInHanded {} Try.checked os 5 .any (Rows.fnExactTreeSizeSpec.pre6 enc Try.prog Try.f5 Rows.fnExactTreeSizeRow.domain false) (Rows.fnExactTreeSizeSpec.post enc Try.prog Try.f5 false true false false) :=
  row_of_call (C := Try.checked) own started (by kernel_rfl) Try.func5
    (ChangeSpec.witness6 (enc := enc) (C := Try.checked) false ⟨#[], #[.agg #[.slice none 0 0, .slice none 0 0, .slice none 0 0]], []⟩ 9 (by kernel_rfl) (by kernel_rfl) (by kernel_rfl) (by kernel_rfl))
    (by kernel_rfl) rfl (tb := 4) rfl Try.underlying4 (ps := pars) rfl
    (fun ds h => by match ds, h with
      | [d0], _ => rfl) (by kernel_rfl) (by kernel_rfl) (by kernel_rfl) (by kernel_rfl) parsOk called
theorem over : Rows.fnExactTreeSizeRow.holds Try.pinned (OpenSpec.ofChange Rows.fnExactTreeSizeSpec) :=
  OpenClaim.holds_of_wide 5 Try.f5 rfl rfl rfl rfl rfl rfl rfl ⟨rfl, rfl, rfl, rfl, rfl⟩ rfl rfl rfl rfl rfl (by kernel_rfl) Try.func5 (by kernel_rfl)
    (of_decide_eq_true (by kernel_rfl)) (by unfold Func.isWrapper; first | (rw [if_pos (by decide +kernel)]; kernel_rfl) | (rw [if_neg (by decide +kernel)]; exact ⟨rfl, rfl⟩))
    (fun os started H enc _ => lifted os started H enc)
theorem proved : Rows.FnExactTreeSizeSaid := over
#print axioms proved
end Go.Proofs.Ytlnjihghghmkeaa.fnExactTreeSize
namespace Go.Proofs.Ytlnjihghghmkeaa
/-- The row, under a short name, for the claim. -/
theorem fnExactTreeSize_holds : Rows.FnExactTreeSizeSaid := fnExactTreeSize.proved
end Go.Proofs.Ytlnjihghghmkeaa
