/- The program's TableRight returns what the reference's returns, for all arguments: the row. -/
import Derived.Test.YtnieabocheadpaaRows
import Derived.Test.YtnieabocheadpaaLKTableRight
import Derived.WalkKit
import Derived.ProofKit
import Derived.OpenShut
import Derived.ShutString
import Derived.ChangeOld
import Derived.Below
import Derived.SizedLaws
namespace Go.Proofs.Ytnieabocheadpaa.fnExactTableRight
open Go Go.Proofs.YtnieabocheadpaaW
set_option maxRecDepth 100000
def pars : List Par := [⟨44, true, Tbl.RP⟩]
theorem parsOk : ∀ p ∈ pars, ParOk Try.prog p := by
  intro p hp
  simp only [pars, List.mem_cons, List.not_mem_nil, or_false] at hp
  rcases hp with rfl
  · exact ⟨fun n => opens_struct Try.underlying44 (by kernel_rfl) fun m _ => opensCons (opens_struct Try.underlying26 (by kernel_rfl) fun m _ => opensCons (opens_string Try.underlying9) (opensCons (opens_slice Try.underlying22 (by kernel_rfl) (by decide) fun m _ => opens_struct Try.underlying139 (by kernel_rfl) fun m _ => opensCons (opens_string Try.underlying9) (opensCons (opens_int Try.underlying2) (opensCons (opens_bool Try.underlying4) (opensNil)))) (opensCons (opens_slice Try.underlying23 (by kernel_rfl) (by decide) fun m _ => opens_int Try.underlying2) (opensCons (opens_slice Try.underlying24 (by kernel_rfl) (by decide) fun m _ => opens_struct Try.underlying141 (by kernel_rfl) fun m _ => opensCons (opens_slice Try.underlying23 (by kernel_rfl) (by decide) fun m _ => opens_int Try.underlying2) (opensCons (opens_bool Try.underlying4) (opensNil))) (opensNil))))) (opensCons (opens_slice Try.underlying42 (by kernel_rfl) (by decide) fun m _ => opens_slice Try.underlying60 (by kernel_rfl) (by decide) fun m _ => opens_struct Try.underlying111 (by kernel_rfl) fun m _ => opensCons (opens_int Try.underlying2) (opensCons (opens_int Try.underlying2) (opensCons (opens_string Try.underlying9) (opensNil)))) (opensNil)), rfl, fun ys h => let ⟨v, e, _⟩ := Tbl.lift h; e ▸ Nat.le_of_ble_eq_true rfl⟩
theorem called : ∀ yss, ParsR pars yss → CallOK Try.prog 4 (argsOf pars yss) ⟨.c (.y (.sc (.bool true))), []⟩ := by
  intro yss h
  obtain ⟨y0, rfl, h0⟩ := pars1 h
  obtain ⟨t, rfl, t_b, t_r⟩ := Tbl.lift h0
  exact lawTableRight_ok t t_b t_r
end Go.Proofs.Ytnieabocheadpaa.fnExactTableRight
namespace Go.Proofs.Ytnieabocheadpaa.fnExactTableRight
open Go Go.Proofs.YtnieabocheadpaaW Go.ChangeShapes Go.WideShapes Go.ChangeAt Go.RowKit
set_option maxRecDepth 100000
set_option maxHeartbeats 8000000
theorem own : ownKnob Try.prog.godebug = none := by kernel_rfl
theorem lifted (os : Os) (started : os.Started) (H : Type) (enc : TypeId × Value → H) :
    ReturnsInHanded {} Try.checked os 4 .any (Rows.fnExactTableRightSpec.pre6 enc Try.prog Try.f4 Rows.fnExactTableRightRow.domain false) (Rows.fnExactTableRightSpec.post enc Try.prog Try.f4 false true false false) :=
  row_of_call (C := Try.checked) own started (by kernel_rfl) Try.func4
    (ChangeSpec.witness6 (enc := enc) (C := Try.checked) false ⟨#[], #[.agg #[.string ⟨#[]⟩, .slice none 0 0, .slice none 0 0, .slice none 0 0, .slice none 0 0]], []⟩ 9 (by kernel_rfl) (by kernel_rfl) (by kernel_rfl) (by kernel_rfl))
    (by kernel_rfl) rfl (tb := 4) rfl Try.underlying4 (ps := pars) rfl
    (fun ds h => by match ds, h with
      | [d0], _ => rfl) (by kernel_rfl) (by kernel_rfl) (by kernel_rfl) (by kernel_rfl) parsOk called
theorem over : Rows.fnExactTableRightRow.holds Try.pinned (OpenSpec.ofChange Rows.fnExactTableRightSpec) :=
  OpenClaim.holds_of_wide 4 Try.f4 rfl rfl rfl rfl rfl rfl rfl ⟨rfl, rfl, rfl, rfl, rfl⟩ rfl rfl rfl rfl rfl (by kernel_rfl) Try.func4 (by kernel_rfl)
    (of_decide_eq_true (by kernel_rfl)) (by unfold Func.isWrapper; first | (rw [if_pos (by decide +kernel)]; kernel_rfl) | (rw [if_neg (by decide +kernel)]; exact ⟨rfl, rfl⟩))
    (fun os started H enc _ => lifted os started H enc)
theorem proved : Rows.FnExactTableRightSaid := over
#print axioms proved
end Go.Proofs.Ytnieabocheadpaa.fnExactTableRight
namespace Go.Proofs.Ytnieabocheadpaa
/-- The row, under a short name, for the claim. -/
theorem fnExactTableRight_holds : Rows.FnExactTableRightSaid := fnExactTableRight.proved
end Go.Proofs.Ytnieabocheadpaa
