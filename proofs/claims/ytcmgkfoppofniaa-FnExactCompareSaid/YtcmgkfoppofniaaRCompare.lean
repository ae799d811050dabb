/- The program's Compare returns what the reference's returns, for all arguments: the row. -/
import Derived.Test.YtcmgkfoppofniaaRows
import Derived.Test.YtcmgkfoppofniaaLKCompare
import Derived.WalkKit
import Derived.ProofKit
import Derived.OpenShut
import Derived.ShutString
import Derived.ChangeOld
import Derived.Below
import Derived.SizedLaws
namespace Go.Proofs.Ytcmgkfoppofniaa.fnExactCompare
open Go Go.Proofs.YtcmgkfoppofniaaW
set_option maxRecDepth 100000
def pars : List Par := [⟨40, false, rL 3 Val.RP⟩, ⟨40, false, rL 3 Val.RP⟩]
theorem parsOk : ∀ p ∈ pars, ParOk Try.prog p := by
  intro p hp
  simp only [pars, List.mem_cons, List.not_mem_nil, or_false] at hp
  rcases hp with rfl | rfl
  · exact ⟨fun n => opens_slice Try.underlying40 (by kernel_rfl) (by decide) fun m _ => opens_struct Try.underlying112 (by kernel_rfl) fun m _ => opensCons (opens_int Try.underlying2) (opensCons (opens_int Try.underlying2) (opensCons (opens_string Try.underlying9) (opensNil))), rfl, fun ys h => let ⟨_, e, _⟩ := h; e ▸ Nat.le_of_ble_eq_true rfl⟩
  · exact ⟨fun n => opens_slice Try.underlying40 (by kernel_rfl) (by decide) fun m _ => opens_struct Try.underlying112 (by kernel_rfl) fun m _ => opensCons (opens_int Try.underlying2) (opensCons (opens_int Try.underlying2) (opensCons (opens_string Try.underlying9) (opensNil))), rfl, fun ys h => let ⟨_, e, _⟩ := h; e ▸ Nat.le_of_ble_eq_true rfl⟩
theorem called : ∀ yss, ParsR pars yss → CallOK Try.prog 5 (argsOf pars yss) ⟨.c (.y (.sc (.bool true))), []⟩ := by
  intro yss h
  obtain ⟨y0, y1, rfl, h0, h1⟩ := pars2 h
  obtain ⟨a, rfl, a_b, a_r⟩ := liftL (row := Val.row) (B := fun v => Val.Bd maxLen v ∧ Val.Rg v) (fun ys h => Val.lift h) h0
  obtain ⟨b, rfl, b_b, b_r⟩ := liftL (row := Val.row) (B := fun v => Val.Bd maxLen v ∧ Val.Rg v) (fun ys h => Val.lift h) h1
  exact lawCompare_ok a a_b (fun v hv => (a_r v hv).1) (fun v hv => (a_r v hv).2) b b_b (fun v hv => (b_r v hv).1) (fun v hv => (b_r v hv).2)
end Go.Proofs.Ytcmgkfoppofniaa.fnExactCompare
namespace Go.Proofs.Ytcmgkfoppofniaa.fnExactCompare
open Go Go.Proofs.YtcmgkfoppofniaaW Go.ChangeShapes Go.WideShapes Go.ChangeAt Go.RowKit
set_option maxRecDepth 100000
set_option maxHeartbeats 8000000
theorem own : ownKnob Try.prog.godebug = none := by kernel_rfl
theorem lifted (os : Os) (started : os.Started) (H : Type) (enc : TypeId × Value → H) :
    ReturnsInHanded {} Try.checked os 5 .any (Rows.fnExactCompareSpec.pre6 enc Try.prog Try.f5 Rows.fnExactCompareRow.domain false) (Rows.fnExactCompareSpec.post enc Try.prog Try.f5 false true false false) :=
  row_of_call (C := Try.checked) own started (by kernel_rfl) Try.func5
    (ChangeSpec.witness6 (enc := enc) (C := Try.checked) false ⟨#[], #[.slice none 0 0, .slice none 0 0], []⟩ 9 (by kernel_rfl) (by kernel_rfl) (by kernel_rfl) (by kernel_rfl))
    (by kernel_rfl) rfl (tb := 4) rfl Try.underlying4 (ps := pars) rfl
    (fun ds h => by match ds, h with
      | [d0, d1], _ => rfl) (by kernel_rfl) (by kernel_rfl) (by kernel_rfl) (by kernel_rfl) parsOk called
theorem over : Rows.fnExactCompareRow.holds Try.pinned (OpenSpec.ofChange Rows.fnExactCompareSpec) :=
  OpenClaim.holds_of_wide 5 Try.f5 rfl rfl rfl rfl rfl rfl rfl ⟨rfl, rfl, rfl, rfl, rfl⟩ rfl rfl rfl rfl rfl (by kernel_rfl) Try.func5 (by kernel_rfl)
    (of_decide_eq_true (by kernel_rfl)) (by unfold Func.isWrapper; first | (rw [if_pos (by decide +kernel)]; kernel_rfl) | (rw [if_neg (by decide +kernel)]; exact ⟨rfl, rfl⟩))
    (fun os started H enc _ => lifted os started H enc)
theorem proved : Rows.FnExactCompareSaid := over
#print axioms proved
end Go.Proofs.Ytcmgkfoppofniaa.fnExactCompare
namespace Go.Proofs.Ytcmgkfoppofniaa
/-- The row, under a short name, for the claim. -/
theorem fnExactCompare_holds : Rows.FnExactCompareSaid := fnExactCompare.proved
end Go.Proofs.Ytcmgkfoppofniaa
