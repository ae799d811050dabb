/- The program's ValuesRight returns what the reference's returns, for every list of values: the row. -/
import Derived.Test.YteennikekhiedaaRows
import Derived.Test.YteennikekhiedaaLValues
import Derived.WalkKit
import Derived.ProofKit
import Derived.OpenShut
import Derived.ShutString
import Derived.ChangeOld
import Derived.Below
import Derived.SizedLaws
namespace Go.Proofs.Yteennikekhiedaa.fnExactValuesRight
open Go Go.Proofs.YteennikekhiedaaW
set_option maxRecDepth 100000
def pars : List Par := [⟨48, false, rL 3 (RParts [rI .i64, rI .i64, rS])⟩]
theorem parsOk : ∀ p ∈ pars, ParOk Try.prog p := by
  intro p hp
  rw [List.mem_singleton.1 hp]
  refine ⟨fun n => opens_slice Try.underlying48 (by kernel_rfl) (by decide) fun m _ => opens_struct Try.underlying34 (by kernel_rfl) fun m _ => opensCons (opens_int Try.underlying2) (opensCons (opens_int Try.underlying2) (opensCons (opens_string Try.underlying9) opensNil)), rfl, fun ys h => ?_⟩
  obtain ⟨xs, rfl, _⟩ := h
  exact Nat.le_of_ble_eq_true rfl
theorem lift : ∀ xs : List (List Y), (∀ x ∈ xs, x.length = 3 ∧ RParts [rI .i64, rI .i64, rS] x) → ∃ l : List Val, xs = l.map Val.row ∧ ∀ v ∈ l, v.s.size ≤ maxLen
  | [], _ => ⟨[], rfl, by simp⟩
  | x :: xs, h => by
    obtain ⟨l, hl, hs⟩ := lift xs fun y hy => h y (List.mem_cons_of_mem _ hy)
    obtain ⟨_, _, _, e1, ⟨a, _, ea⟩, _, _, e2, ⟨b, _, eb⟩, _, _, e3, ⟨c, hc, ec⟩, e4⟩ := h x (List.mem_cons_self ..)
    refine ⟨⟨a, b, c⟩ :: l, ?_, ?_⟩
    · rw [e1, ea, e2, eb, e3, ec, e4, hl]; rfl
    · intro v hv
      rcases List.mem_cons.1 hv with rfl | hv
      · exact hc
      · exact hs v hv
theorem called : ∀ yss, ParsR pars yss → CallOK Try.prog 13 (argsOf pars yss) ⟨.c (.y (.sc (.bool true))), []⟩ := by
  intro yss h
  obtain ⟨ys, rfl, xs, rfl, hl, hx⟩ := pars1 h
  obtain ⟨l, rfl, hs⟩ := lift xs hx
  exact lawValuesRight_ok l (by rwa [List.length_map] at hl) hs
end Go.Proofs.Yteennikekhiedaa.fnExactValuesRight
namespace Go.Proofs.Yteennikekhiedaa.fnExactValuesRight
open Go Go.Proofs.YteennikekhiedaaW Go.ChangeShapes Go.WideShapes Go.ChangeAt Go.RowKit
set_option maxRecDepth 100000
set_option maxHeartbeats 8000000
theorem own : ownKnob Try.prog.godebug = none := by kernel_rfl
theorem lifted (os : Os) (started : os.Started) (H : Type) (enc : TypeId × Value → H) :
    ReturnsInHanded {} Try.checked os 13 .any (Rows.fnExactValuesRightSpec.pre6 enc Try.prog Try.f13 Rows.fnExactValuesRightRow.domain false) (Rows.fnExactValuesRightSpec.post enc Try.prog Try.f13 false true false false) :=
  row_of_call (C := Try.checked) own started (by kernel_rfl) Try.func13
    (ChangeSpec.witness6 (enc := enc) (C := Try.checked) false ⟨#[], #[.slice none 0 0], []⟩ 9 (by kernel_rfl) (by kernel_rfl) (by kernel_rfl) (by kernel_rfl))
    rfl (tb := 4) rfl Try.underlying4 (ps := pars) rfl
    (fun ds h => by match ds, h with
      | [d0], _ => rfl) (by kernel_rfl) (by kernel_rfl) (by kernel_rfl) (by kernel_rfl) parsOk called
theorem over : Rows.fnExactValuesRightRow.holds Try.pinned (OpenSpec.ofChange Rows.fnExactValuesRightSpec) :=
  OpenClaim.holds_of_wide 13 Try.f13 rfl rfl rfl rfl rfl rfl rfl ⟨rfl, rfl, rfl, rfl, rfl⟩ rfl rfl rfl rfl rfl (by kernel_rfl) Try.func13 (by kernel_rfl)
    (of_decide_eq_true (by kernel_rfl)) (by unfold Func.isWrapper; first | (rw [if_pos (by decide +kernel)]; kernel_rfl) | (rw [if_neg (by decide +kernel)]; exact ⟨rfl, rfl⟩))
    (fun os started H enc _ => lifted os started H enc)
theorem proved : Rows.FnExactValuesRightSaid := over
#print axioms proved
end Go.Proofs.Yteennikekhiedaa.fnExactValuesRight
namespace Go.Proofs.Yteennikekhiedaa
/-- The row, under a short name, for the claim. -/
theorem fnExactValuesRight_holds : Rows.FnExactValuesRightSaid := fnExactValuesRight.proved
end Go.Proofs.Yteennikekhiedaa
