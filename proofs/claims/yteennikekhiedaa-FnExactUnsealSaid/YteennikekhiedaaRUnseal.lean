/- The program's Unseal returns what the reference's returns, for every text: the row. -/
import Derived.Test.YteennikekhiedaaRows
import Derived.Test.YteennikekhiedaaLBytes
import Derived.WalkKit
import Derived.ProofKit
import Derived.OpenShut
import Derived.ShutString
import Derived.ChangeOld
import Derived.Below
import Derived.SizedLaws
namespace Go.Proofs.Yteennikekhiedaa.fnExactUnseal
open Go Go.Proofs.YteennikekhiedaaW
set_option maxRecDepth 100000
def pars : List Par := [⟨9, false, rS⟩]
theorem parsOk : ∀ p ∈ pars, ParOk Try.prog p := by
  intro p hp
  rw [List.mem_singleton.1 hp]
  refine ⟨fun n => opens_string Try.underlying9, rfl, fun ys h => ?_⟩
  obtain ⟨a, _, rfl⟩ := h
  exact Nat.le_of_ble_eq_true rfl
theorem called : ∀ yss, ParsR pars yss → CallOK Try.prog 12 (argsOf pars yss) ⟨.c (.y (.sc (.bool true))), []⟩ := by
  intro yss h
  obtain ⟨ys, rfl, ⟨a, ha, rfl⟩⟩ := pars1 h
  exact lawUnseal_ok a ha
end Go.Proofs.Yteennikekhiedaa.fnExactUnseal
namespace Go.Proofs.Yteennikekhiedaa.fnExactUnseal
open Go Go.Proofs.YteennikekhiedaaW Go.ChangeShapes Go.WideShapes Go.ChangeAt Go.RowKit
set_option maxRecDepth 100000
set_option maxHeartbeats 8000000
theorem own : ownKnob Try.prog.godebug = none := by kernel_rfl
theorem lifted (os : Os) (started : os.Started) (H : Type) (enc : TypeId × Value → H) :
    ReturnsInHanded {} Try.checked os 12 .any (Rows.fnExactUnsealSpec.pre6 enc Try.prog Try.f12 Rows.fnExactUnsealRow.domain false) (Rows.fnExactUnsealSpec.post enc Try.prog Try.f12 false true false false) :=
  row_of_call (C := Try.checked) own started (by kernel_rfl) Try.func12
    (ChangeSpec.witness6 (enc := enc) (C := Try.checked) false ⟨#[], #[.string ⟨#[]⟩], []⟩ 9 (by kernel_rfl) (by kernel_rfl) (by kernel_rfl) (by kernel_rfl))
    rfl (tb := 4) rfl Try.underlying4 (ps := pars) rfl
    (fun ds h => by match ds, h with
      | [d0], _ => rfl) (by kernel_rfl) (by kernel_rfl) (by kernel_rfl) (by kernel_rfl) parsOk called
theorem over : Rows.fnExactUnsealRow.holds Try.pinned (OpenSpec.ofChange Rows.fnExactUnsealSpec) :=
  OpenClaim.holds_of_wide 12 Try.f12 rfl rfl rfl rfl rfl rfl rfl ⟨rfl, rfl, rfl, rfl, rfl⟩ rfl rfl rfl rfl rfl (by kernel_rfl) Try.func12 (by kernel_rfl)
    (of_decide_eq_true (by kernel_rfl)) (by unfold Func.isWrapper; first | (rw [if_pos (by decide +kernel)]; kernel_rfl) | (rw [if_neg (by decide +kernel)]; exact ⟨rfl, rfl⟩))
    (fun os started H enc _ => lifted os started H enc)
theorem proved : Rows.FnExactUnsealSaid := over
#print axioms proved
end Go.Proofs.Yteennikekhiedaa.fnExactUnseal
namespace Go.Proofs.Yteennikekhiedaa
/-- The row, under a short name, for the claim. -/
theorem fnExactUnseal_holds : Rows.FnExactUnsealSaid := fnExactUnseal.proved
end Go.Proofs.Yteennikekhiedaa
