/- The program's CrcMore returns what the reference's returns, for every number and text: the row. -/
import Derived.Test.YteennikekhiedaaRows
import Derived.Test.YteennikekhiedaaLBytes
import Derived.WalkKit
import Derived.ProofKit
import Derived.OpenShut
import Derived.ShutString
import Derived.ChangeOld
import Derived.Below
import Derived.SizedLaws
namespace Go.Proofs.Yteennikekhiedaa.fnExactCrcMore
open Go Go.Proofs.YteennikekhiedaaW
set_option maxRecDepth 100000
def pars : List Par := [⟨2, false, rI .i64⟩, ⟨9, false, rS⟩]
theorem parsOk : ∀ p ∈ pars, ParOk Try.prog p := by
  intro p hp
  rcases List.mem_cons.1 hp with rfl | hp
  · refine ⟨fun n => opens_int Try.underlying2, rfl, fun ys h => ?_⟩
    obtain ⟨a, _, rfl⟩ := h
    exact Nat.le_of_ble_eq_true rfl
  · rw [List.mem_singleton.1 hp]
    refine ⟨fun n => opens_string Try.underlying9, rfl, fun ys h => ?_⟩
    obtain ⟨a, _, rfl⟩ := h
    exact Nat.le_of_ble_eq_true rfl
theorem called : ∀ yss, ParsR pars yss → CallOK Try.prog 11 (argsOf pars yss) ⟨.c (.y (.sc (.bool true))), []⟩ := by
  intro yss h
  obtain ⟨ys, zs, rfl, ⟨a, _, rfl⟩, ⟨b, hb, rfl⟩⟩ := pars2 h
  exact lawCrcMore_ok a b hb
end Go.Proofs.Yteennikekhiedaa.fnExactCrcMore
namespace Go.Proofs.Yteennikekhiedaa.fnExactCrcMore
open Go Go.Proofs.YteennikekhiedaaW Go.ChangeShapes Go.WideShapes Go.ChangeAt Go.RowKit
set_option maxRecDepth 100000
set_option maxHeartbeats 8000000
theorem own : ownKnob Try.prog.godebug = none := by kernel_rfl
theorem lifted (os : Os) (started : os.Started) (H : Type) (enc : TypeId × Value → H) :
    ReturnsInHanded {} Try.checked os 11 .any (Rows.fnExactCrcMoreSpec.pre6 enc Try.prog Try.f11 Rows.fnExactCrcMoreRow.domain false) (Rows.fnExactCrcMoreSpec.post enc Try.prog Try.f11 false true false false) :=
  row_of_call (C := Try.checked) own started (by kernel_rfl) Try.func11
    (ChangeSpec.witness6 (enc := enc) (C := Try.checked) false ⟨#[], #[.int .i64 0, .string ⟨#[]⟩], []⟩ 9 (by kernel_rfl) (by kernel_rfl) (by kernel_rfl) (by kernel_rfl))
    rfl (tb := 4) rfl Try.underlying4 (ps := pars) rfl
    (fun ds h => by match ds, h with
      | [d0, d1], _ => rfl) (by kernel_rfl) (by kernel_rfl) (by kernel_rfl) (by kernel_rfl) parsOk called
theorem over : Rows.fnExactCrcMoreRow.holds Try.pinned (OpenSpec.ofChange Rows.fnExactCrcMoreSpec) :=
  OpenClaim.holds_of_wide 11 Try.f11 rfl rfl rfl rfl rfl rfl rfl ⟨rfl, rfl, rfl, rfl, rfl⟩ rfl rfl rfl rfl rfl (by kernel_rfl) Try.func11 (by kernel_rfl)
    (of_decide_eq_true (by kernel_rfl)) (by unfold Func.isWrapper; first | (rw [if_pos (by decide +kernel)]; kernel_rfl) | (rw [if_neg (by decide +kernel)]; exact ⟨rfl, rfl⟩))
    (fun os started H enc _ => lifted os started H enc)
theorem proved : Rows.FnExactCrcMoreSaid := over
#print axioms proved
end Go.Proofs.Yteennikekhiedaa.fnExactCrcMore
namespace Go.Proofs.Yteennikekhiedaa
/-- The row, under a short name, for the claim. -/
theorem fnExactCrcMore_holds : Rows.FnExactCrcMoreSaid := fnExactCrcMore.proved
end Go.Proofs.Yteennikekhiedaa
