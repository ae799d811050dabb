/- The program's DbRight returns what the reference's returns, for all arguments: the row. -/
import Derived.Test.YtnieabocheadpaaRows
import Derived.Test.YtnieabocheadpaaLKDbRight
import Derived.WalkKit
import Derived.ProofKit
import Derived.OpenShut
import Derived.ShutString
import Derived.ChangeOld
import Derived.Below
import Derived.SizedLaws
namespace Go.Proofs.Ytnieabocheadpaa.fnExactDbRight
open Go Go.Proofs.YtnieabocheadpaaW
set_option maxRecDepth 100000
def pars : List Par := [⟨51, true, Dbs.RP⟩]
theorem parsOk : ∀ p ∈ pars, ParOk Try.prog p := by
  intro p hp
  simp only [pars, List.mem_cons, List.not_mem_nil, or_false] at hp
  rcases hp with rfl
  · exact ⟨fun n => opens_struct Try.underlying51 (by kernel_rfl) fun m _ => opensCons (opens_slice Try.underlying49 (by kernel_rfl) (by decide) fun m _ => opens_struct Try.underlying44 (by kernel_rfl) fun m _ => opensCons (opens_struct Try.underlying26 (by kernel_rfl) fun m _ => opensCons (opens_string Try.underlying9) (opensCons (opens_slice Try.underlying22 (by kernel_rfl) (by decide) fun m _ => opens_struct Try.underlying139 (by kernel_rfl) fun m _ => opensCons (opens_string Try.underlying9) (opensCons (opens_int Try.underlying2) (opensCons (opens_bool Try.underlying4) (opensNil)))) (opensCons (opens_slice Try.underlying23 (by kernel_rfl) (by decide) fun m _ => opens_int Try.underlying2) (opensCons (opens_slice Try.underlying24 (by kernel_rfl) (by decide) fun m _ => opens_struct Try.underlying141 (by kernel_rfl) fun m _ => opensCons (opens_slice Try.underlying23 (by kernel_rfl) (by decide) fun m _ => opens_int Try.underlying2) (opensCons (opens_bool Try.underlying4) (opensNil))) (opensNil))))) (opensCons (opens_slice Try.underlying42 (by kernel_rfl) (by decide) fun m _ => opens_slice Try.underlying60 (by kernel_rfl) (by decide) fun m _ => opens_struct Try.underlying111 (by kernel_rfl) fun m _ => opensCons (opens_int Try.underlying2) (opensCons (opens_int Try.underlying2) (opensCons (opens_string Try.underlying9) (opensNil)))) (opensNil))) (opensNil), rfl, fun ys h => let ⟨v, e, _⟩ := Dbs.lift h; e ▸ Nat.le_of_ble_eq_true rfl⟩
theorem called : ∀ yss, ParsR pars yss → CallOK Try.prog 5 (argsOf pars yss) ⟨.c (.y (.sc (.bool true))), []⟩ := by
  intro yss h
  obtain ⟨y0, rfl, h0⟩ := pars1 h
  obtain ⟨d, rfl, d_b, d_r⟩ := Dbs.lift h0
  exact lawDbRight_ok d d_b d_r
end Go.Proofs.Ytnieabocheadpaa.fnExactDbRight
namespace Go.Proofs.Ytnieabocheadpaa.fnExactDbRight
open Go Go.Proofs.YtnieabocheadpaaW Go.ChangeShapes Go.WideShapes Go.ChangeAt Go.RowKit
set_option maxRecDepth 100000
set_option maxHeartbeats 8000000
theorem own : ownKnob Try.prog.godebug = none := by kernel_rfl
theorem lifted (os : Os) (started : os.Started) (H : Type) (enc : TypeId × Value → H) :
    ReturnsInHanded {} Try.checked os 5 .any (Rows.fnExactDbRightSpec.pre6 enc Try.prog Try.f5 Rows.fnExactDbRightRow.domain false) (Rows.fnExactDbRightSpec.post enc Try.prog Try.f5 false true false false) :=
  row_of_call (C := Try.checked) own started (by kernel_rfl) Try.func5
    (ChangeSpec.witness6 (enc := enc) (C := Try.checked) false ⟨#[], #[.agg #[.slice none 0 0]], []⟩ 9 (by kernel_rfl) (by kernel_rfl) (by kernel_rfl) (by kernel_rfl))
    (by kernel_rfl) rfl (tb := 4) rfl Try.underlying4 (ps := pars) rfl
    (fun ds h => by match ds, h with
      | [d0], _ => rfl) (by kernel_rfl) (by kernel_rfl) (by kernel_rfl) (by kernel_rfl) parsOk called
theorem over : Rows.fnExactDbRightRow.holds Try.pinned (OpenSpec.ofChange Rows.fnExactDbRightSpec) :=
  OpenClaim.holds_of_wide 5 Try.f5 rfl rfl rfl rfl rfl rfl rfl ⟨rfl, rfl, rfl, rfl, rfl⟩ rfl rfl rfl rfl rfl (by kernel_rfl) Try.func5 (by kernel_rfl)
    (of_decide_eq_true (by kernel_rfl)) (by unfold Func.isWrapper; first | (rw [if_pos (by decide +kernel)]; kernel_rfl) | (rw [if_neg (by decide +kernel)]; exact ⟨rfl, rfl⟩))
    (fun os started H enc _ => lifted os started H enc)
theorem proved : Rows.FnExactDbRightSaid := over
#print axioms proved
end Go.Proofs.Ytnieabocheadpaa.fnExactDbRight
namespace Go.Proofs.Ytnieabocheadpaa
/-- The row, under a short name, for the claim. -/
theorem fnExactDbRight_holds : Rows.FnExactDbRightSaid := fnExactDbRight.proved
end Go.Proofs.Ytnieabocheadpaa
