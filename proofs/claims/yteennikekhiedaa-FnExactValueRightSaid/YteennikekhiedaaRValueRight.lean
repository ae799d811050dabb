/- The program's ValueRight returns what the reference's returns, for every value: the row. -/
import Derived.Test.YteennikekhiedaaRows
import Derived.Test.YteennikekhiedaaLValue
import Derived.WalkKit
import Derived.ProofKit
import Derived.OpenShut
import Derived.ShutString
import Derived.ChangeOld
import Derived.Below
import Derived.SizedLaws
namespace Go.Proofs.Yteennikekhiedaa.fnExactValueRight
open Go Go.Proofs.YteennikekhiedaaW
set_option maxRecDepth 100000
def pars : List Par := [⟨34, true, RParts [rI .i64, rI .i64, rS]⟩]
theorem parsOk : ∀ p ∈ pars, ParOk Try.prog p := by
  intro p hp
  rw [List.mem_singleton.1 hp]
  refine ⟨fun n => opens_struct Try.underlying34 (by kernel_rfl) fun m _ => opensCons (opens_int Try.underlying2) (opensCons (opens_int Try.underlying2) (opensCons (opens_string Try.underlying9) opensNil)), rfl, fun ys h => ?_⟩
  obtain ⟨_, _, rfl, ⟨a, _, rfl⟩, _, _, rfl, ⟨b, _, rfl⟩, _, _, rfl, ⟨c, _, rfl⟩, rfl⟩ := h
  exact Nat.le_of_ble_eq_true rfl
theorem called : ∀ yss, ParsR pars yss → CallOK Try.prog 7 (argsOf pars yss) ⟨.c (.y (.sc (.bool true))), []⟩ := by
  intro yss h
  obtain ⟨ys, rfl, _, _, rfl, ⟨a, _, rfl⟩, _, _, rfl, ⟨b, _, rfl⟩, _, _, rfl, ⟨c, hc, rfl⟩, rfl⟩ := pars1 h
  exact law_ok a b c hc
end Go.Proofs.Yteennikekhiedaa.fnExactValueRight
namespace Go.Proofs.Yteennikekhiedaa.fnExactValueRight
open Go Go.Proofs.YteennikekhiedaaW Go.ChangeShapes Go.WideShapes Go.ChangeAt Go.RowKit
set_option maxRecDepth 100000
set_option maxHeartbeats 8000000
theorem own : ownKnob Try.prog.godebug = none := by kernel_rfl
theorem lifted (os : Os) (started : os.Started) (H : Type) (enc : TypeId × Value → H) :
    ReturnsInHanded {} Try.checked os 7 .any (Rows.fnExactValueRightSpec.pre6 enc Try.prog Try.f7 Rows.fnExactValueRightRow.domain false) (Rows.fnExactValueRightSpec.post enc Try.prog Try.f7 false true false false) :=
  row_of_call (C := Try.checked) own started (by kernel_rfl) Try.func7
    (ChangeSpec.witness6 (enc := enc) (C := Try.checked) false ⟨#[], #[.agg #[.int .i64 0, .int .i64 0, .string ⟨#[]⟩]], []⟩ 9 (by kernel_rfl) (by kernel_rfl) (by kernel_rfl) (by kernel_rfl))
    rfl (tb := 4) rfl Try.underlying4 (ps := pars) rfl
    (fun ds h => by match ds, h with
      | [d0], _ => rfl) (by kernel_rfl) (by kernel_rfl) (by kernel_rfl) (by kernel_rfl) parsOk called
theorem over : Rows.fnExactValueRightRow.holds Try.pinned (OpenSpec.ofChange Rows.fnExactValueRightSpec) :=
  OpenClaim.holds_of_wide 7 Try.f7 rfl rfl rfl rfl rfl rfl rfl ⟨rfl, rfl, rfl, rfl, rfl⟩ rfl rfl rfl rfl rfl (by kernel_rfl) Try.func7 (by kernel_rfl)
    (of_decide_eq_true (by kernel_rfl)) (by unfold Func.isWrapper; first | (rw [if_pos (by decide +kernel)]; kernel_rfl) | (rw [if_neg (by decide +kernel)]; exact ⟨rfl, rfl⟩))
    (fun os started H enc _ => lifted os started H enc)
theorem proved : Rows.FnExactValueRightSaid := over
#print axioms proved
end Go.Proofs.Yteennikekhiedaa.fnExactValueRight
namespace Go.Proofs.Yteennikekhiedaa
/-- The row, under a short name, for the claim. -/
theorem fnExactValueRight_holds : Rows.FnExactValueRightSaid := fnExactValueRight.proved
end Go.Proofs.Yteennikekhiedaa
