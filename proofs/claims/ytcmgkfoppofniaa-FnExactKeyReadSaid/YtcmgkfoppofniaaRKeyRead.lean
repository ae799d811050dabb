/- The program's KeyRead returns what the reference's returns, for every text: the row. -/
import Derived.Test.YtcmgkfoppofniaaRows
import Derived.Test.YtcmgkfoppofniaaLKKeyRead
import Derived.WalkKit
import Derived.ProofKit
import Derived.OpenShut
import Derived.ShutString
import Derived.ChangeOld
import Derived.Below
import Derived.SizedLaws
namespace Go.Proofs.Ytcmgkfoppofniaa.fnExactKeyRead
open Go Go.Proofs.YtcmgkfoppofniaaW
set_option maxRecDepth 100000
def pars : List Par := [⟨9, false, rS⟩]
theorem parsOk : ∀ p ∈ pars, ParOk Try.prog p := by
  intro p hp
  rw [List.mem_singleton.1 hp]
  refine ⟨fun n => opens_string Try.underlying9, rfl, fun ys h => ?_⟩
  obtain ⟨a, _, rfl⟩ := h
  exact Nat.le_of_ble_eq_true rfl
theorem called : ∀ yss, ParsR pars yss → CallOK Try.prog 7 (argsOf pars yss) ⟨.c (.y (.sc (.bool true))), []⟩ := by
  intro yss h
  obtain ⟨ys, rfl, ⟨a, ha, rfl⟩⟩ := pars1 h
  exact lawKeyRead_ok a ha
end Go.Proofs.Ytcmgkfoppofniaa.fnExactKeyRead
namespace Go.Proofs.Ytcmgkfoppofniaa.fnExactKeyRead
open Go Go.Proofs.YtcmgkfoppofniaaW Go.ChangeShapes Go.WideShapes Go.ChangeAt Go.RowKit
set_option maxRecDepth 100000
set_option maxHeartbeats 8000000
theorem own : ownKnob Try.prog.godebug = none := by kernel_rfl
theorem lifted (os : Os) (started : os.Started) (H : Type) (enc : TypeId × Value → H) :
    ReturnsInHanded {} Try.checked os 7 .any (Rows.fnExactKeyReadSpec.pre6 enc Try.prog Try.f7 Rows.fnExactKeyReadRow.domain false) (Rows.fnExactKeyReadSpec.post enc Try.prog Try.f7 false true false false) :=
  row_of_call (C := Try.checked) own started (by kernel_rfl) Try.func7
    (ChangeSpec.witness6 (enc := enc) (C := Try.checked) false ⟨#[], #[.string ⟨#[]⟩], []⟩ 9 (by kernel_rfl) (by kernel_rfl) (by kernel_rfl) (by kernel_rfl))
    (by kernel_rfl) rfl (tb := 4) rfl Try.underlying4 (ps := pars) rfl
    (fun ds h => by match ds, h with
      | [d0], _ => rfl) (by kernel_rfl) (by kernel_rfl) (by kernel_rfl) (by kernel_rfl) parsOk called
theorem over : Rows.fnExactKeyReadRow.holds Try.pinned (OpenSpec.ofChange Rows.fnExactKeyReadSpec) :=
  OpenClaim.holds_of_wide 7 Try.f7 rfl rfl rfl rfl rfl rfl rfl ⟨rfl, rfl, rfl, rfl, rfl⟩ rfl rfl rfl rfl rfl (by kernel_rfl) Try.func7 (by kernel_rfl)
    (of_decide_eq_true (by kernel_rfl)) (by unfold Func.isWrapper; first | (rw [if_pos (by decide +kernel)]; kernel_rfl) | (rw [if_neg (by decide +kernel)]; exact ⟨rfl, rfl⟩))
    (fun os started H enc _ => lifted os started H enc)
theorem proved : Rows.FnExactKeyReadSaid := over
#print axioms proved
end Go.Proofs.Ytcmgkfoppofniaa.fnExactKeyRead
namespace Go.Proofs.Ytcmgkfoppofniaa
/-- The row, under a short name, for the claim. -/
theorem fnExactKeyRead_holds : Rows.FnExactKeyReadSaid := fnExactKeyRead.proved
end Go.Proofs.Ytcmgkfoppofniaa
