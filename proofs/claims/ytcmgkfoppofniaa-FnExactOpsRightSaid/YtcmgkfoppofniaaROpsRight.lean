/- The program's OpsRight returns what the reference's returns, for all arguments: the row. -/
import Derived.Test.YtcmgkfoppofniaaRows
import Derived.Test.YtcmgkfoppofniaaLKOpsRight
import Derived.WalkKit
import Derived.ProofKit
import Derived.OpenShut
import Derived.ShutString
import Derived.ChangeOld
import Derived.Below
import Derived.SizedLaws
namespace Go.Proofs.Ytcmgkfoppofniaa.fnExactOpsRight
open Go Go.Proofs.YtcmgkfoppofniaaW
set_option maxRecDepth 100000
def pars : List Par := [⟨78, false, rL 7 Opn.RP⟩]
theorem parsOk : ∀ p ∈ pars, ParOk Try.prog p := by
  intro p hp
  simp only [pars, List.mem_cons, List.not_mem_nil, or_false] at hp
  rcases hp with rfl
  · exact ⟨fun n => opens_slice Try.underlying78 (by kernel_rfl) (by decide) fun m _ => opens_struct Try.underlying150 (by kernel_rfl) fun m _ => opensCons (opens_int Try.underlying2) (opensCons (opens_string Try.underlying9) (opensCons (opens_struct Try.underlying63 (by kernel_rfl) fun m _ => opensCons (opens_string Try.underlying9) (opensCons (opens_slice Try.underlying60 (by kernel_rfl) (by decide) fun m _ => opens_struct Try.underlying181 (by kernel_rfl) fun m _ => opensCons (opens_string Try.underlying9) (opensCons (opens_int Try.underlying2) (opensCons (opens_bool Try.underlying4) (opensNil)))) (opensCons (opens_slice Try.underlying47 (by kernel_rfl) (by decide) fun m _ => opens_int Try.underlying2) (opensCons (opens_slice Try.underlying61 (by kernel_rfl) (by decide) fun m _ => opens_struct Try.underlying183 (by kernel_rfl) fun m _ => opensCons (opens_slice Try.underlying47 (by kernel_rfl) (by decide) fun m _ => opens_int Try.underlying2) (opensCons (opens_bool Try.underlying4) (opensNil))) (opensNil))))) (opensCons (opens_slice Try.underlying40 (by kernel_rfl) (by decide) fun m _ => opens_struct Try.underlying112 (by kernel_rfl) fun m _ => opensCons (opens_int Try.underlying2) (opensCons (opens_int Try.underlying2) (opensCons (opens_string Try.underlying9) (opensNil)))) (opensNil)))), rfl, fun ys h => let ⟨_, e, _⟩ := h; e ▸ Nat.le_of_ble_eq_true rfl⟩
theorem called : ∀ yss, ParsR pars yss → CallOK Try.prog 12 (argsOf pars yss) ⟨.c (.y (.sc (.bool true))), []⟩ := by
  intro yss h
  obtain ⟨y0, rfl, h0⟩ := pars1 h
  obtain ⟨l, rfl, l_b, l_r⟩ := liftL (row := Opn.row) (B := fun v => Opn.Bd maxLen v ∧ Opn.Rg v) (fun ys h => Opn.lift h) h0
  exact lawOpsRight_ok l l_b (fun v hv => (l_r v hv).1) (fun v hv => (l_r v hv).2)
end Go.Proofs.Ytcmgkfoppofniaa.fnExactOpsRight
namespace Go.Proofs.Ytcmgkfoppofniaa.fnExactOpsRight
open Go Go.Proofs.YtcmgkfoppofniaaW Go.ChangeShapes Go.WideShapes Go.ChangeAt Go.RowKit
set_option maxRecDepth 100000
set_option maxHeartbeats 8000000
theorem own : ownKnob Try.prog.godebug = none := by kernel_rfl
theorem lifted (os : Os) (started : os.Started) (H : Type) (enc : TypeId × Value → H) :
    ReturnsInHanded {} Try.checked os 12 .any (Rows.fnExactOpsRightSpec.pre6 enc Try.prog Try.f12 Rows.fnExactOpsRightRow.domain false) (Rows.fnExactOpsRightSpec.post enc Try.prog Try.f12 false true false false) :=
  row_of_call (C := Try.checked) own started (by kernel_rfl) Try.func12
    (ChangeSpec.witness6 (enc := enc) (C := Try.checked) false ⟨#[], #[.slice none 0 0], []⟩ 9 (by kernel_rfl) (by kernel_rfl) (by kernel_rfl) (by kernel_rfl))
    rfl (tb := 4) rfl Try.underlying4 (ps := pars) rfl
    (fun ds h => by match ds, h with
      | [d0], _ => rfl) (by kernel_rfl) (by kernel_rfl) (by kernel_rfl) (by kernel_rfl) parsOk called
theorem over : Rows.fnExactOpsRightRow.holds Try.pinned (OpenSpec.ofChange Rows.fnExactOpsRightSpec) :=
  OpenClaim.holds_of_wide 12 Try.f12 rfl rfl rfl rfl rfl rfl rfl ⟨rfl, rfl, rfl, rfl, rfl⟩ rfl rfl rfl rfl rfl (by kernel_rfl) Try.func12 (by kernel_rfl)
    (of_decide_eq_true (by kernel_rfl)) (by unfold Func.isWrapper; first | (rw [if_pos (by decide +kernel)]; kernel_rfl) | (rw [if_neg (by decide +kernel)]; exact ⟨rfl, rfl⟩))
    (fun os started H enc _ => lifted os started H enc)
theorem proved : Rows.FnExactOpsRightSaid := over
#print axioms proved
end Go.Proofs.Ytcmgkfoppofniaa.fnExactOpsRight
namespace Go.Proofs.Ytcmgkfoppofniaa
/-- The row, under a short name, for the claim. -/
theorem fnExactOpsRight_holds : Rows.FnExactOpsRightSaid := fnExactOpsRight.proved
end Go.Proofs.Ytcmgkfoppofniaa
