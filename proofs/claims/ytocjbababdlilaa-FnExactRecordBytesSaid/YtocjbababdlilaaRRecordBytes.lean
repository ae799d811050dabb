/- The program's RecordBytes returns what the reference's returns, for every record: the row. -/
import Derived.Test.YtocjbababdlilaaRows
import Derived.Test.YtocjbababdlilaaLRecord
import Derived.WalkKit
import Derived.ProofKit
import Derived.OpenShut
import Derived.ShutString
import Derived.ChangeOld
import Derived.Below
import Derived.SizedLaws
namespace Go.Proofs.Ytocjbababdlilaa.fnExactRecordBytes
open Go Go.Proofs.YtocjbababdlilaaW
set_option maxRecDepth 100000
def pars : List Par := [⟨53, true, RParts [rI .i64, rS]⟩]
theorem parsOk : ∀ p ∈ pars, ParOk Try.prog p := by
  intro p hp
  rw [List.mem_singleton.1 hp]
  refine ⟨fun n => opens_struct Try.underlying53 (by kernel_rfl) fun m _ => opensCons (opens_int Try.underlying2) (opensCons (opens_string Try.underlying9) opensNil), rfl, fun ys h => ?_⟩
  obtain ⟨_, _, rfl, ⟨a, _, rfl⟩, _, _, rfl, ⟨b, _, rfl⟩, rfl⟩ := h
  exact Nat.le_of_ble_eq_true rfl
theorem called : ∀ yss, ParsR pars yss → CallOK Try.prog 9 (argsOf pars yss) ⟨.c (.y (.sc (.bool true))), []⟩ := by
  intro yss h
  obtain ⟨ys, rfl, _, _, rfl, ⟨a, _, rfl⟩, _, _, rfl, ⟨b, hb, rfl⟩, rfl⟩ := pars1 h
  exact lawRecordBytes_ok a b hb
end Go.Proofs.Ytocjbababdlilaa.fnExactRecordBytes
namespace Go.Proofs.Ytocjbababdlilaa.fnExactRecordBytes
open Go Go.Proofs.YtocjbababdlilaaW Go.ChangeShapes Go.WideShapes Go.ChangeAt Go.RowKit
set_option maxRecDepth 100000
set_option maxHeartbeats 8000000
theorem own : ownKnob Try.prog.godebug = none := by kernel_rfl
theorem lifted (os : Os) (started : os.Started) (H : Type) (enc : TypeId × Value → H) :
    ReturnsInHanded {} Try.checked os 9 .any (Rows.fnExactRecordBytesSpec.pre6 enc Try.prog Try.f9 Rows.fnExactRecordBytesRow.domain false) (Rows.fnExactRecordBytesSpec.post enc Try.prog Try.f9 false true false false) :=
  row_of_call (C := Try.checked) own started (by kernel_rfl) Try.func9
    (ChangeSpec.witness6 (enc := enc) (C := Try.checked) false ⟨#[], #[.agg #[.int .i64 0, .string ⟨#[]⟩]], []⟩ 9 (by kernel_rfl) (by kernel_rfl) (by kernel_rfl) (by kernel_rfl))
    rfl (tb := 4) rfl Try.underlying4 (ps := pars) rfl
    (fun ds h => by match ds, h with
      | [d0], _ => rfl) (by kernel_rfl) (by kernel_rfl) (by kernel_rfl) (by kernel_rfl) parsOk called
theorem over : Rows.fnExactRecordBytesRow.holds Try.pinned (OpenSpec.ofChange Rows.fnExactRecordBytesSpec) :=
  OpenClaim.holds_of_wide 9 Try.f9 rfl rfl rfl rfl rfl rfl rfl ⟨rfl, rfl, rfl, rfl, rfl⟩ rfl rfl rfl rfl rfl (by kernel_rfl) Try.func9 (by kernel_rfl)
    (of_decide_eq_true (by kernel_rfl)) (by unfold Func.isWrapper; first | (rw [if_pos (by decide +kernel)]; kernel_rfl) | (rw [if_neg (by decide +kernel)]; exact ⟨rfl, rfl⟩))
    (fun os started H enc _ => lifted os started H enc)
theorem proved : Rows.FnExactRecordBytesSaid := over
#print axioms proved
end Go.Proofs.Ytocjbababdlilaa.fnExactRecordBytes
namespace Go.Proofs.Ytocjbababdlilaa
/-- The row, under a short name, for the claim. -/
theorem fnExactRecordBytes_holds : Rows.FnExactRecordBytesSaid := fnExactRecordBytes.proved
end Go.Proofs.Ytocjbababdlilaa
