/- The program's QueryRight returns what the reference's returns, for all arguments: the row. -/
import Derived.Test.YtcmgkfoppofniaaRows
import Derived.Test.YtcmgkfoppofniaaLKQueryRight
import Derived.WalkKit
import Derived.ProofKit
import Derived.OpenShut
import Derived.ShutString
import Derived.ChangeOld
import Derived.Below
import Derived.SizedLaws
namespace Go.Proofs.Ytcmgkfoppofniaa.fnExactQueryRight
open Go Go.Proofs.YtcmgkfoppofniaaW
set_option maxRecDepth 100000
def pars : List Par := [⟨88, true, Qry.RP⟩]
theorem parsOk : ∀ p ∈ pars, ParOk Try.prog p := by
  intro p hp
  simp only [pars, List.mem_cons, List.not_mem_nil, or_false] at hp
  rcases hp with rfl
  · exact ⟨fun n => opens_struct Try.underlying88 (by kernel_rfl) fun m _ => opensCons (opens_slice Try.underlying85 (by kernel_rfl) (by decide) fun m _ => opens_struct Try.underlying195 (by kernel_rfl) fun m _ => opensCons (opens_int Try.underlying2) (opensCons (opens_string Try.underlying9) (opensNil))) (opensCons (opens_string Try.underlying9) (opensCons (opens_string Try.underlying9) (opensCons (opens_string Try.underlying9) (opensCons (opens_string Try.underlying9) (opensCons (opens_slice Try.underlying86 (by kernel_rfl) (by decide) fun m _ => opens_struct Try.underlying198 (by kernel_rfl) fun m _ => opensCons (opens_string Try.underlying9) (opensCons (opens_string Try.underlying9) (opensCons (opens_struct Try.underlying112 (by kernel_rfl) fun m _ => opensCons (opens_int Try.underlying2) (opensCons (opens_int Try.underlying2) (opensCons (opens_string Try.underlying9) (opensNil)))) (opensNil)))) (opensCons (opens_string Try.underlying9) (opensCons (opens_string Try.underlying9) (opensCons (opens_bool Try.underlying4) (opensCons (opens_int Try.underlying2) (opensNil)))))))))), rfl, fun ys h => let ⟨v, e, _⟩ := Qry.lift h; e ▸ Nat.le_of_ble_eq_true rfl⟩
theorem called : ∀ yss, ParsR pars yss → CallOK Try.prog 13 (argsOf pars yss) ⟨.c (.y (.sc (.bool true))), []⟩ := by
  intro yss h
  obtain ⟨y0, rfl, h0⟩ := pars1 h
  obtain ⟨q, rfl, q_b, q_r⟩ := Qry.lift h0
  exact lawQueryRight_ok q q_b q_r
end Go.Proofs.Ytcmgkfoppofniaa.fnExactQueryRight
namespace Go.Proofs.Ytcmgkfoppofniaa.fnExactQueryRight
open Go Go.Proofs.YtcmgkfoppofniaaW Go.ChangeShapes Go.WideShapes Go.ChangeAt Go.RowKit
set_option maxRecDepth 100000
set_option maxHeartbeats 8000000
theorem own : ownKnob Try.prog.godebug = none := by kernel_rfl
theorem lifted (os : Os) (started : os.Started) (H : Type) (enc : TypeId × Value → H) :
    ReturnsInHanded {} Try.checked os 13 .any (Rows.fnExactQueryRightSpec.pre6 enc Try.prog Try.f13 Rows.fnExactQueryRightRow.domain false) (Rows.fnExactQueryRightSpec.post enc Try.prog Try.f13 false true false false) :=
  row_of_call (C := Try.checked) own started (by kernel_rfl) Try.func13
    (ChangeSpec.witness6 (enc := enc) (C := Try.checked) false ⟨#[], #[.agg #[.slice none 0 0, .string ⟨#[]⟩, .string ⟨#[]⟩, .string ⟨#[]⟩, .string ⟨#[]⟩, .slice none 0 0, .string ⟨#[]⟩, .string ⟨#[]⟩, .bool false, .int .i64 0]], []⟩ 9 (by kernel_rfl) (by kernel_rfl) (by kernel_rfl) (by kernel_rfl))
    (by kernel_rfl) rfl (tb := 4) rfl Try.underlying4 (ps := pars) rfl
    (fun ds h => by match ds, h with
      | [d0], _ => rfl) (by kernel_rfl) (by kernel_rfl) (by kernel_rfl) (by kernel_rfl) parsOk called
theorem over : Rows.fnExactQueryRightRow.holds Try.pinned (OpenSpec.ofChange Rows.fnExactQueryRightSpec) :=
  OpenClaim.holds_of_wide 13 Try.f13 rfl rfl rfl rfl rfl rfl rfl ⟨rfl, rfl, rfl, rfl, rfl⟩ rfl rfl rfl rfl rfl (by kernel_rfl) Try.func13 (by kernel_rfl)
    (of_decide_eq_true (by kernel_rfl)) (by unfold Func.isWrapper; first | (rw [if_pos (by decide +kernel)]; kernel_rfl) | (rw [if_neg (by decide +kernel)]; exact ⟨rfl, rfl⟩))
    (fun os started H enc _ => lifted os started H enc)
theorem proved : Rows.FnExactQueryRightSaid := over
#print axioms proved
end Go.Proofs.Ytcmgkfoppofniaa.fnExactQueryRight
namespace Go.Proofs.Ytcmgkfoppofniaa
/-- The row, under a short name, for the claim. -/
theorem fnExactQueryRight_holds : Rows.FnExactQueryRightSaid := fnExactQueryRight.proved
end Go.Proofs.Ytcmgkfoppofniaa
