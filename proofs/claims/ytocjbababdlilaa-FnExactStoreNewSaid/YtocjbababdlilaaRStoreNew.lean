/- The program's StoreNew returns what the reference's returns, for all arguments: the row. -/
import Derived.Test.YtocjbababdlilaaRows
import Derived.Test.YtocjbababdlilaaLSNew
import Derived.WalkKit
import Derived.ProofKit
import Derived.OpenShut
import Derived.ShutString
import Derived.ChangeOld
import Derived.Below
import Derived.SizedLaws
namespace Go.Proofs.Ytocjbababdlilaa.fnExactStoreNew
open Go Go.Proofs.YtocjbababdlilaaW
set_option maxRecDepth 100000
def pars : List Par := []
theorem parsOk : ∀ p ∈ pars, ParOk Try.prog p := by
  intro p hp
  simp [pars] at hp
theorem called : ∀ yss, ParsR pars yss → CallOK Try.prog 11 (argsOf pars yss) ⟨.c (.y (.sc (.bool true))), []⟩ := by
  intro yss h
  exact lawStoreNew_ok
end Go.Proofs.Ytocjbababdlilaa.fnExactStoreNew
namespace Go.Proofs.Ytocjbababdlilaa.fnExactStoreNew
open Go Go.Proofs.YtocjbababdlilaaW Go.ChangeShapes Go.WideShapes Go.ChangeAt Go.RowKit
set_option maxRecDepth 100000
set_option maxHeartbeats 8000000
theorem own : ownKnob Try.prog.godebug = none := by kernel_rfl
theorem lifted (os : Os) (started : os.Started) (H : Type) (enc : TypeId × Value → H) :
    ReturnsInHanded {} Try.checked os 11 .any (Rows.fnExactStoreNewSpec.pre6 enc Try.prog Try.f11 Rows.fnExactStoreNewRow.domain false) (Rows.fnExactStoreNewSpec.post enc Try.prog Try.f11 false true false false) :=
  row_of_call (C := Try.checked) own started (by kernel_rfl) Try.func11
    (ChangeSpec.witness6 (enc := enc) (C := Try.checked) false ⟨#[], #[], []⟩ 9 (by kernel_rfl) (by kernel_rfl) (by kernel_rfl) (by kernel_rfl))
    (by kernel_rfl) rfl (tb := 4) rfl Try.underlying4 (ps := pars) rfl
    (fun ds h => by match ds, h with
      | [], _ => rfl) (by kernel_rfl) (by kernel_rfl) (by kernel_rfl) (by kernel_rfl) parsOk called
theorem over : Rows.fnExactStoreNewRow.holds Try.pinned (OpenSpec.ofChange Rows.fnExactStoreNewSpec) :=
  OpenClaim.holds_of_wide 11 Try.f11 rfl rfl rfl rfl rfl rfl rfl ⟨rfl, rfl, rfl, rfl, rfl⟩ rfl rfl rfl rfl rfl (by kernel_rfl) Try.func11 (by kernel_rfl)
    (of_decide_eq_true (by kernel_rfl)) (by unfold Func.isWrapper; first | (rw [if_pos (by decide +kernel)]; kernel_rfl) | (rw [if_neg (by decide +kernel)]; exact ⟨rfl, rfl⟩))
    (fun os started H enc _ => lifted os started H enc)
theorem proved : Rows.FnExactStoreNewSaid := over
#print axioms proved
end Go.Proofs.Ytocjbababdlilaa.fnExactStoreNew
namespace Go.Proofs.Ytocjbababdlilaa
/-- The row, under a short name, for the claim. -/
theorem fnExactStoreNew_holds : Rows.FnExactStoreNewSaid := fnExactStoreNew.proved
end Go.Proofs.Ytocjbababdlilaa
